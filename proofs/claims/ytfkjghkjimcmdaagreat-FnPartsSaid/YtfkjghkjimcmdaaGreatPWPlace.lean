/- The code of places in a wear: the program's is the reference's. -/
import Derived.Test.YtfkjghkjimcmdaaGreatM2
import Derived.Test.YtfkjghkjimcmdaaGreatPFrame
import Derived.Test.YtfkjghkjimcmdaaGreatPDrum
import Derived.Test.YtfkjghkjimcmdaaGreatPCodes
import Derived.Test.YtfkjghkjimcmdaaGreatPWear
import Derived.Test.YtfkjghkjimcmdaaGreatPPut
import Derived.Test.YtfkjghkjimcmdaaGreatPWDrum
import Derived.Test.YtfkjghkjimcmdaaGreatPEach
import Derived.Test.YtfkjghkjimcmdaaGreatPParts
import Derived.Test.YtfkjghkjimcmdaaGreatPOwn
import Derived.Test.YtfkjghkjimcmdaaGreatPure
namespace Go.Proofs.YtfkjghkjimcmdaaGreat
open Eng
set_option linter.unusedVariables false
set_option linter.unusedSimpArgs false

def plA (f : GFrame) (p : Arr 2 Int) : Bool := plB f (p.at 0 (by decide)) (p.at 1 (by decide))
theorem wornPlace_is (f : GFrame) (w : GWear) (hf : f.fHammers.length ≤ 1048576) (hp : w.fPins.length ≤ 1048576) (hs : w.fStrokes.length ≤ 1048576) (ps : List (Arr 2 Int)) (hl : ps.length ≤ 9223372036854775807) :
    impl_wornPlaceCode f w ps = some (if wearB f w = true then (if ps.all (plA f) = true then 0 else 2) else 1) := by
  have hc : slices_ContainsFunc_2int64_at_impl_wornPlaceCode_1 ps f = some (!(ps.all (plA f))) := by
    obtain ⟨t, ht, hq⟩ := loop_find (f := slices_IndexFunc_2int64_at_impl_wornPlaceCode_1.l_3 ps f) ps (fun x => !(plA f x)) hl (fun k hk => by
      have e0 : ix ps[k].1 0 = some (ps[k].at 0 (by decide)) := ix_arr_lt (by decide)
      have e1 : ix ps[k].1 1 = some (ps[k].at 1 (by decide)) := ix_arr_lt (by decide)
      simp only [slices_IndexFunc_2int64_at_impl_wornPlaceCode_1.l_3, ix_lt hk, Option.bind_some, impl_wornPlaceCode_1, e0, e1, isPlace_is]
      rw [if_pos (by simpa using hk)]
      unfold plA
      by_cases he : plB f (ps[k].at 0 (by decide)) (ps[k].at 1 (by decide)) = true <;> simp [he]) (by simp [slices_IndexFunc_2int64_at_impl_wornPlaceCode_1.l_3])
    simp only [slices_ContainsFunc_2int64_at_impl_wornPlaceCode_1, slices_IndexFunc_2int64_at_impl_wornPlaceCode_1, ht, Option.bind_some]
    rcases hq with ⟨hany, k, rfl, _⟩ | ⟨hany, rfl⟩
    · rw [any_not] at hany
      rw [hany]; simp
    · rw [any_not] at hany
      rw [hany]; simp [slices_IndexFunc_2int64_at_impl_wornPlaceCode_1.k_1]
  simp only [impl_wornPlaceCode, wearCode_is f w hf hp hs [] (by simp), Option.bind_some, hc, unless_is]
  cases wearB f w with
  | false => simp
  | true => cases ps.all (plA f) <;> simp
theorem arr2_plA (f : GFrame) (a b : Int) : plA f (Arr.set (Arr.set (Arr.rep 2 0) 0 a) 1 b) = plB f a b := rfl

end Go.Proofs.YtfkjghkjimcmdaaGreat
