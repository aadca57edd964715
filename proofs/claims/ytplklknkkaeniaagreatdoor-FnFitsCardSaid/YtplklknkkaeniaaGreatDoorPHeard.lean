/- What a drum plays: the program's list and the reference's. -/
import Derived.Test.YtplklknkkaeniaaGreatDoorM0
import Derived.Test.YtplklknkkaeniaaGreatDoorM2
import Derived.Test.YtplklknkkaeniaaGreatDoorPFrame
import Derived.Test.YtplklknkkaeniaaGreatDoorPDrum
import Derived.Test.YtplklknkkaeniaaGreatDoorPTune
import Derived.Test.YtplklknkkaeniaaGreatDoorPMade
import Derived.Test.YtplklknkkaeniaaGreatDoorPure
namespace Go.Proofs.YtplklknkkaeniaaGreatDoor
open Eng
set_option linter.unusedVariables false
set_option linter.unusedSimpArgs false

def np (f : GFrame) (d : Arr 96 Int) (s t : Nat) : List GNote := if pin d s t = true then ((f.fHammers[t]?).map fun h => (⟨(s : Int), h.fPitch⟩ : GNote)).toList else []
theorem np_len (f : GFrame) (d : Arr 96 Int) (s t : Nat) : (np f d s t).length ≤ 1 := by
  unfold np
  split
  · cases f.fHammers[t]? <;> simp
  · simp
def nr (f : GFrame) (d : Arr 96 Int) (s : Nat) : List GNote := (List.range f.fHammers.length).flatMap (np f d s)
theorem nr_len (f : GFrame) (d : Arr 96 Int) (s : Nat) : (nr f d s).length ≤ f.fHammers.length * 1 := app_len _ _ _ fun k _ => np_len f d s k
def nall (f : GFrame) (d : Arr 96 Int) : List GNote := (List.range f.fSteps.toNat).flatMap (nr f d)
theorem nall_len {f : GFrame} (hf : FOk f) (d : Arr 96 Int) : (nall f d).length ≤ 2304 := by
  have h1 := hf.h1; have h2 := hf.s1; have h3 := hf.s0
  have := app_len f.fSteps.toNat 24 (nr f d) (fun k _ => by have := nr_len f d k; omega)
  unfold nall
  omega
theorem playIn {f : GFrame} (hf : FOk f) {d : Arr 96 Int} (hd : DIn d) (s : Nat) (hs : (s : Int) < f.fSteps) (xs : List GNote) (hx : xs.length ≤ 4000) :
    loop (impl_Frame_pins_at_impl_Frame_played_1.l_12 d 0 (w64 f.fSteps) f (s : Int) (f.fHammers.length : Int)) (xs, 0) = some (xs ++ nr f d s) := by
  have h1 := hf.h1; have h2 := hf.s1; have h3 := hf.s0
  refine loop_app f.fHammers.length 1 (by omega) (np f d s) xs (fun k _ => np_len f d s k) (fun ys k hk hy => ?_) (fun ys => by simp [impl_Frame_pins_at_impl_Frame_played_1.l_12])
  simp only [impl_Frame_pins_at_impl_Frame_played_1.l_12, has_is hd (show s < 96 by omega) (t := k) (by omega), Option.bind_some]
  rw [if_pos (by simpa using hk)]
  unfold np
  cases c : pin d s k with
  | true =>
    simp only [if_true, impl_Frame_played_1, impl_within, ix_lt hk, Option.bind_some, List.getElem?_eq_getElem hk, Option.map_some, Option.toList_some]
    rw [w64_in (n := f.fSteps) (by omega) (by omega), w64_in (n := 0 + f.fSteps) (by omega) (by omega), w64_in (n := 0 + f.fSteps - 1) (by omega) (by omega), if_pos (by simp only [ge_iff_le, Bool.and_eq_true, decide_eq_true_eq]; omega), w64_in (n := (s : Int) - 0) (by omega) (by omega), w16_in (n := (s : Int) - 0) (by omega) (by omega)]
    rw [if_pos (by simp only [List.length_cons, List.length_nil]; omega)]
    simp
  | false => simp
theorem specPlayIn {f : GFrame} (hf : FOk f) {d : Arr 96 Int} (hd : DIn d) (s : Nat) (hs : (s : Int) < f.fSteps) (xs : List GNote) (hx : xs.length ≤ 4000) :
    loop (spec_l02Tune.l_12 f d (s : Int)) (xs, 0) = some (xs ++ nr f d s) := by
  have h1 := hf.h1; have h2 := hf.s1; have h3 := hf.s0
  refine loop_app f.fHammers.length 1 (by omega) (np f d s) xs (fun k _ => np_len f d s k) (fun ys k hk hy => ?_) (fun ys => by simp [spec_l02Tune.l_12])
  simp only [spec_l02Tune.l_12, pin_is hd (show s < 96 by omega) (t := k) (by omega), Option.bind_some]
  rw [if_pos (by simpa using hk)]
  unfold np
  cases c : pin d s k with
  | true =>
    simp only [if_true, ix_lt hk, Option.bind_some, List.getElem?_eq_getElem hk, Option.map_some, Option.toList_some]
    rw [w16_in (n := (s : Int)) (by omega) (by omega), if_pos (by simp only [List.length_cons, List.length_nil]; omega)]
  | false => simp
theorem played_is {f : GFrame} (hf : FOk f) {d : Arr 96 Int} (hd : DIn d) : impl_Frame_played f d 0 (w64 f.fSteps) = impl_made (nall f d) := by
  have h1 := hf.h1; have h2 := hf.s1; have h3 := hf.s0
  have e : w64 f.fSteps = (f.fSteps.toNat : Int) := by rw [w64_in (by omega) (by omega)]; omega
  have := loop_app (f := impl_Frame_pins_at_impl_Frame_played_1.l_5 f d 0 (w64 f.fSteps) f) f.fSteps.toNat 24 (by omega) (nr f d) [] (fun k _ => by have := nr_len f d k; omega) (fun ys k hk hy => by
    simp only [List.length_nil] at hy
    simp only [impl_Frame_pins_at_impl_Frame_played_1.l_5, size_is, Option.bind_some, playIn hf hd k (by omega) ys (by omega), impl_Frame_pins_at_impl_Frame_played_1.k_9]
    rw [if_pos (by rw [e, decide_eq_true_eq]; omega)]) (fun ys => by simp [impl_Frame_pins_at_impl_Frame_played_1.l_5, e])
  simp only [impl_Frame_played, impl_Frame_pins_at_impl_Frame_played_1, this, Option.bind_some, impl_Frame_pins_at_impl_Frame_played_1.k_2, List.nil_append]
  show (impl_made (nall f d)).bind some = _
  cases impl_made (nall f d) <;> rfl
theorem l02Tune_is {f : GFrame} (hf : FOk f) {d : Arr 96 Int} (hd : DIn d) : spec_l02Tune f d = spec_l01Sorted (nall f d) := by
  have h1 := hf.h1; have h2 := hf.s1; have h3 := hf.s0
  have e : w64 f.fSteps = (f.fSteps.toNat : Int) := by rw [w64_in (by omega) (by omega)]; omega
  have := loop_app (f := spec_l02Tune.l_6 f d) f.fSteps.toNat 24 (by omega) (nr f d) [] (fun k _ => by have := nr_len f d k; omega) (fun ys k hk hy => by
    simp only [List.length_nil] at hy
    simp only [spec_l02Tune.l_6, Option.bind_some, specPlayIn hf hd k (by omega) ys (by omega), spec_l02Tune.k_9]
    rw [if_pos (by rw [e, decide_eq_true_eq]; omega)]) (fun ys => by simp [spec_l02Tune.l_6, e])
  simp only [spec_l02Tune, this, Option.bind_some, spec_l02Tune.k_2, List.nil_append]
  show (spec_l01Sorted (nall f d)).bind some = _
  cases spec_l01Sorted (nall f d) <;> rfl

end Go.Proofs.YtplklknkkaeniaaGreatDoor
