/- The program's test of trees says yes to a tree of least cost. -/
import Derived.Test.YtolfkfjjifdmeaaM0
import Derived.Test.YtolfkfjjifdmeaaM2
import Derived.Test.YtolfkfjjifdmeaaPFrame
import Derived.Test.YtolfkfjjifdmeaaPDrum
import Derived.Test.YtolfkfjjifdmeaaPCodes
import Derived.Test.YtolfkfjjifdmeaaPPut
import Derived.Test.YtolfkfjjifdmeaaPBits
import Derived.Test.YtolfkfjjifdmeaaPCost
import Derived.Test.YtolfkfjjifdmeaaPDTab
import Derived.Test.YtolfkfjjifdmeaaPStab
import Derived.Test.YtolfkfjjifdmeaaPPairs
import Derived.Test.YtolfkfjjifdmeaaPJoined
import Derived.Test.YtolfkfjjifdmeaaPKruskal
import Derived.Test.YtolfkfjjifdmeaaPComps
import Derived.Test.YtolfkfjjifdmeaaPMst
import Derived.Test.YtolfkfjjifdmeaaPKPath
import Derived.Test.YtolfkfjjifdmeaaPChkTree
import Derived.Test.YtolfkfjjifdmeaaPMarkA
import Derived.Test.YtolfkfjjifdmeaaPChkImpl
import Derived.Test.YtolfkfjjifdmeaaPBPath
import Derived.Test.YtolfkfjjifdmeaaPOrdImpl
import Derived.Test.YtolfkfjjifdmeaaPOrdSpec
import Derived.Test.YtolfkfjjifdmeaaPDTabC
import Derived.Test.YtolfkfjjifdmeaaPBestOrd
import Derived.Test.YtolfkfjjifdmeaaPOrdLaw
import Derived.Test.YtolfkfjjifdmeaaPOrdTree
import Derived.Test.YtolfkfjjifdmeaaPure
namespace Go.Proofs.Ytolfkfjjifdmeaa
open Eng
set_option linter.unusedVariables false
set_option linter.unusedSimpArgs false

theorem isP_in2 {n : Nat} (hn : n ≤ 1000) {x : Arr 2 Int} (h : IsP n x) : In2 x := by
  obtain ⟨i, k, rfl, h1, h2⟩ := h
  have a : e0 (prA i k) = (i : Int) := rfl
  have b : e1 (prA i k) = (k : Int) := rfl
  unfold In2
  rw [a, b]
  omega
theorem check_true (f : GFrame) (ds : List (Arr 96 Int)) (t : List (Arr 2 Int)) (hi : FIn f) (hl : f.fHammers.length ≤ 9223372036854775807) (hd : ∀ d ∈ ds, DIn d) (hc : listV f ds = 0) (h8 : ds.length ≤ 8) (hn : t.length + 1 = ds.length)
    (hP : ∀ e ∈ t, IsP ds.length e) (hF : Forest ds.length t) (hL : PathLaw ds.length (cstD ds) t) : impl_CheckTree f ds t = some (true, 0) := by
  have hds : ds.length ≤ 4294967296 := by omega
  have hn1 : 1 ≤ ds.length := by omega
  have hT := tabD_tbc hn1 h8
  have w1 : w64 ((ds.length : Int) - 1) = (ds.length : Int) - 1 := w64_in (by omega) (by omega)
  have hb : (listV f ds != 0) = false := by simp [hc]
  have q1 : ((t.length : Int) != (ds.length : Int) - 1) = false := by simp; omega
  have hg : t.all (goodB ds.length) = true := List.all_eq_true.2 fun x hx => good_iff.2 (hP x hx)
  have hw := whole_of hP hF hn
  obtain ⟨b, b1, b2⟩ := l10_is (ds := ds) rfl hT hP (by omega)
  have hbt : b = true := by rw [b2, cut_iff hP hF hw]; exact hL
  subst hbt
  simp only [impl_CheckTree, listCode_is f hi hl ds (by omega) hd, Option.bind_some, impl_size_Drum, impl_size_2int64, hb, Bool.false_eq_true, if_false, w1, q1, contains1_is hn1 (show ds.length ≤ 1000 by omega) t (by omega) (fun x hx => isP_in2 (by omega) (hP x hx)), hg,
    Bool.not_true, impl_CheckTree.k_4, costs_is ds hds hd, joined_is (IsP.isE hP) (show ds.length ≤ 1000 by omega) (by omega), contains2_is _ (show (labL ds.length (rounds t t.length)).length ≤ 9223372036854775807 by rw [labL_len]; omega), (names_zero hn1).2 hw, b1]
  simp [impl_CheckTree.k_8]

end Go.Proofs.Ytolfkfjjifdmeaa
