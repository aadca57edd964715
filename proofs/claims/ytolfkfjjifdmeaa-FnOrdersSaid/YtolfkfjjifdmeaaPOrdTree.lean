/- An order of drums is a tree of pairs: it costs no less than the tree of least cost. -/
import Derived.Test.YtolfkfjjifdmeaaT
import Derived.Test.YtolfkfjjifdmeaaPFrame
import Derived.Test.YtolfkfjjifdmeaaPDrum
import Derived.Test.YtolfkfjjifdmeaaPCodes
import Derived.Test.YtolfkfjjifdmeaaPPut
import Derived.Test.YtolfkfjjifdmeaaPBits
import Derived.Test.YtolfkfjjifdmeaaPCost
import Derived.Test.YtolfkfjjifdmeaaPDTab
import Derived.Test.YtolfkfjjifdmeaaPStab
import Derived.Test.YtolfkfjjifdmeaaPPairs
import Derived.Test.YtolfkfjjifdmeaaPJoined
import Derived.Test.YtolfkfjjifdmeaaPKruskal
import Derived.Test.YtolfkfjjifdmeaaPComps
import Derived.Test.YtolfkfjjifdmeaaPMst
import Derived.Test.YtolfkfjjifdmeaaPKPath
import Derived.Test.YtolfkfjjifdmeaaPChkTree
import Derived.Test.YtolfkfjjifdmeaaPBPath
import Derived.Test.YtolfkfjjifdmeaaPOrdImpl
import Derived.Test.YtolfkfjjifdmeaaPOrdSpec
import Derived.Test.YtolfkfjjifdmeaaPDTabC
import Derived.Test.YtolfkfjjifdmeaaPBestOrd
import Derived.Test.YtolfkfjjifdmeaaPOrdLaw
import Derived.Test.YtolfkfjjifdmeaaPure
namespace Go.Proofs.Ytolfkfjjifdmeaa
open Eng
set_option linter.unusedVariables false
set_option linter.unusedSimpArgs false

def pathE : Nat → List Nat → List (Arr 2 Int)
  | _, [] => []
  | a, k :: r => prA (min a k) (max a k) :: pathE k r
theorem pathE_len : ∀ (r : List Nat) (a : Nat), (pathE a r).length = r.length := by
  intro r
  induction r with
  | nil => intro a; rfl
  | cons k r ih => intro a; simp [pathE, ih]
theorem touch_mm (a k : Nat) : Touch (prA (min a k) (max a k)) a k := by
  unfold Touch
  rw [pa0_is, pa1_is]
  omega
theorem pathE_cn : ∀ (r : List Nat) (a : Nat), ∀ x ∈ a :: r, Cn (pathE a r) a x := by
  intro r
  induction r with
  | nil => intro a x hx; simp only [List.mem_singleton] at hx; subst hx; exact .refl _
  | cons k r ih =>
    intro a x hx
    rcases List.mem_cons.1 hx with rfl | hx
    · exact .refl _
    · have h1 : Cn (pathE a (k :: r)) a k := Cn.one ⟨prA (min a k) (max a k), by simp [pathE], touch_mm a k⟩
      have h2 : Cn (pathE a (k :: r)) k x := (ih k x hx).mono (fun e he => by simp only [pathE, List.mem_cons]; exact .inr he)
      exact h1.trans h2
theorem pathE_isP {n : Nat} : ∀ (r : List Nat) (a : Nat), (a :: r).Nodup → (∀ x ∈ a :: r, x < n) → ∀ e ∈ pathE a r, IsP n e := by
  intro r
  induction r with
  | nil => intro a _ _ e he; cases he
  | cons k r ih =>
    intro a hd hx e he
    have hd2 := List.nodup_cons.1 hd
    simp only [pathE, List.mem_cons] at he
    rcases he with rfl | he
    · have hne : a ≠ k := fun e => hd2.1 (by rw [e]; simp)
      have h1 := hx a (by simp); have h2 := hx k (by simp)
      exact ⟨min a k, max a k, rfl, by omega, by omega⟩
    · exact ih k hd2.2 (fun x hx' => hx x (by simp only [List.mem_cons] at hx' ⊢; exact .inr hx')) e he
theorem pathE_wS {c : Nat → Nat → Nat} (hs : ∀ i k, c i k = c k i) : ∀ (r : List Nat) (a : Nat), wS c (pathE a r) = costO c (a :: r) := by
  intro r
  induction r with
  | nil => intro a; rfl
  | cons k r ih =>
    intro a
    have h1 : wS c (pathE a (k :: r)) = cwP c (prA (min a k) (max a k)) + wS c (pathE k r) := by simp [wS, pathE]
    have h2 : cwP c (prA (min a k) (max a k)) = c a k := by
      unfold cwP
      rw [pa0_is, pa1_is]
      rcases Nat.le_total a k with h | h
      · rw [Nat.min_eq_left h, Nat.max_eq_right h]
      · rw [Nat.min_eq_right h, Nat.max_eq_left h]; exact hs k a
    rw [h1, h2, ih]
    rfl
theorem tree_le {c : Nat → Nat → Nat} {n : Nat} (hs : ∀ i k, c i k = c k i) (hbd : ∀ i k, c i k ≤ 1000000) {A : List (Arr 2 Int)} (hA : PathLaw n c A) (hAp : ∀ e ∈ A, IsP n e) (hAf : Forest n A) (hl : A.length + 1 = n) {o : List Nat} (ho : IsO n o) : wS c A ≤ costO c o := by
  cases o with
  | nil => have := ho.len; simp at this; omega
  | cons a r =>
    have hlen := ho.len
    simp only [List.length_cons] at hlen
    have hP := pathE_isP (n := n) r a ho.1 (fun x hx => (ho.2 x).1 hx)
    have hW : Whole n (pathE a r) := by
      intro v hv
      have h1 := pathE_cn r a v ((ho.2 v).2 hv)
      have h2 := pathE_cn r a 0 ((ho.2 0).2 (by omega))
      exact h1.symm.trans h2
    have hF := forest_of hP hW (by rw [pathE_len]; omega)
    have := hA.least hbd hAp hAf hP hF (by rw [pathE_len]; omega)
    rw [pathE_wS hs] at this
    exact this
theorem cstD_comm (ds : List (Arr 96 Int)) (i k : Nat) : cstD ds i k = cstD ds k i := by
  unfold cstD
  cases ds[i]? with
  | none => cases ds[k]? <;> rfl
  | some a =>
    cases ds[k]? with
    | none => rfl
    | some b => exact distD_comm a b
theorem tabD_tbc {ds : List (Arr 96 Int)} (h1 : 1 ≤ ds.length) (h8 : ds.length ≤ 8) : TbC (tabD ds) ds.length (cstD ds) := by
  have hT := tabC_is h1 h8
  exact ⟨hT.len, hT.at_, hT.bd, by omega⟩

end Go.Proofs.Ytolfkfjjifdmeaa
