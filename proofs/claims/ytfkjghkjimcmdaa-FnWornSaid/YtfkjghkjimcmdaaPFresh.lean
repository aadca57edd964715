/- A fresh wear: the program's way is the reference's. -/
import Derived.Test.YtfkjghkjimcmdaaM0
import Derived.Test.YtfkjghkjimcmdaaM1
import Derived.Test.YtfkjghkjimcmdaaPFrame
import Derived.Test.YtfkjghkjimcmdaaPDrum
import Derived.Test.YtfkjghkjimcmdaaPCodes
import Derived.Test.YtfkjghkjimcmdaaPure
namespace Go.Proofs.Ytfkjghkjimcmdaa
open Eng
set_option linter.unusedVariables false
set_option linter.unusedSimpArgs false

def fp (d : Arr 96 Int) (s t : Nat) : List GWornPin := if pin d s t = true then [⟨(s : Int), (t : Int), 0⟩] else []
theorem fp_len (d : Arr 96 Int) (s t : Nat) : (fp d s t).length ≤ 1 := by unfold fp; split <;> simp
def fr (n : Nat) (d : Arr 96 Int) (s : Nat) : List GWornPin := (List.range n).flatMap (fp d s)
theorem fr_len (n : Nat) (d : Arr 96 Int) (s : Nat) : (fr n d s).length ≤ n * 1 := app_len _ _ _ fun k _ => fp_len d s k
def fpins (f : GFrame) (d : Arr 96 Int) : List GWornPin := (List.range f.fSteps.toNat).flatMap (fr f.fHammers.length d)
theorem fpins_len {f : GFrame} (hf : FOk f) (d : Arr 96 Int) : (fpins f d).length ≤ 2304 := by
  have h1 := hf.h1; have h2 := hf.s1; have h3 := hf.s0
  have := app_len f.fSteps.toNat 24 (fr f.fHammers.length d) (fun k _ => by have := fr_len f.fHammers.length d k; omega)
  unfold fpins
  omega
theorem implIn {f : GFrame} (hf : FOk f) {d : Arr 96 Int} (hd : DIn d) (g : GWear) (s : Nat) (hs : s < 96) (xs : List GWornPin) (hx : xs.length ≤ 4000) :
    loop (impl_Frame_pins_at_impl_FreshWear_1.l_12 d g (s : Int) (f.fHammers.length : Int)) (xs, 0) = some (xs ++ fr f.fHammers.length d s) := by
  have h1 := hf.h1
  refine loop_app f.fHammers.length 1 (by omega) (fp d s) xs (fun k _ => fp_len d s k) (fun ys k hk hy => ?_) (fun ys => by simp [impl_Frame_pins_at_impl_FreshWear_1.l_12])
  simp only [impl_Frame_pins_at_impl_FreshWear_1.l_12, has_is hd hs (t := k) (by omega), Option.bind_some]
  rw [if_pos (by simpa using hk)]
  unfold fp
  by_cases c : pin d s k = true
  · rw [if_pos c, if_pos c]
    simp only [impl_FreshWear_1, w8_in (n := (s : Int)) (by omega) (by omega), w8_in (n := (k : Int)) (by omega) (by omega)]
    rw [if_pos (by simp only [List.length_cons, List.length_nil]; omega)]
    rfl
  · rw [if_neg c, if_neg c, List.append_nil]
theorem specIn {f : GFrame} (hf : FOk f) {d : Arr 96 Int} (hd : DIn d) (s : Nat) (hs : s < 96) (xs : List GWornPin) (hx : xs.length ≤ 4000) :
    loop (spec_FreshWear.l_12 f d (s : Int)) (xs, 0) = some (xs ++ fr f.fHammers.length d s) := by
  have h1 := hf.h1
  refine loop_app f.fHammers.length 1 (by omega) (fp d s) xs (fun k _ => fp_len d s k) (fun ys k hk hy => ?_) (fun ys => by simp [spec_FreshWear.l_12])
  simp only [spec_FreshWear.l_12, pin_is hd hs (t := k) (by omega), Option.bind_some]
  rw [if_pos (by simpa using hk)]
  unfold fp
  by_cases c : pin d s k = true
  · rw [if_pos c, if_pos c, w8_in (n := (s : Int)) (by omega) (by omega), w8_in (n := (k : Int)) (by omega) (by omega)]
    rw [if_pos (by simp only [List.length_cons, List.length_nil]; omega)]
  · rw [if_neg c, if_neg c, List.append_nil]
theorem implOut {f : GFrame} (hf : FOk f) {d : Arr 96 Int} (hd : DIn d) (st : List Int) : impl_Frame_pins_at_impl_FreshWear_1 f d ⟨[], st⟩ = some ⟨fpins f d, st⟩ := by
  have h1 := hf.h1; have h2 := hf.s1; have h3 := hf.s0
  have e : w64 f.fSteps = (f.fSteps.toNat : Int) := by rw [w64_in (by omega) (by omega)]; omega
  have := loop_app (f := impl_Frame_pins_at_impl_FreshWear_1.l_5 f d ⟨[], st⟩) f.fSteps.toNat 24 (by omega) (fr f.fHammers.length d) [] (fun k _ => by have := fr_len f.fHammers.length d k; omega) (fun ys k hk hy => by
    simp only [List.length_nil] at hy
    simp only [impl_Frame_pins_at_impl_FreshWear_1.l_5, size_is, Option.bind_some, e, implIn hf hd _ k (by omega) ys (by omega), impl_Frame_pins_at_impl_FreshWear_1.k_9]
    rw [if_pos (by simp; omega)]) (fun ys => by simp [impl_Frame_pins_at_impl_FreshWear_1.l_5, e])
  simp only [impl_Frame_pins_at_impl_FreshWear_1, this, Option.bind_some, impl_Frame_pins_at_impl_FreshWear_1.k_2, List.nil_append]
  rfl
theorem specOut {f : GFrame} (hf : FOk f) {d : Arr 96 Int} (hd : DIn d) : loop (spec_FreshWear.l_6 f d) ([], 0) = some (fpins f d) := by
  have h1 := hf.h1; have h2 := hf.s1; have h3 := hf.s0
  have e : w64 f.fSteps = (f.fSteps.toNat : Int) := by rw [w64_in (by omega) (by omega)]; omega
  have := loop_app (f := spec_FreshWear.l_6 f d) f.fSteps.toNat 24 (by omega) (fr f.fHammers.length d) [] (fun k _ => by have := fr_len f.fHammers.length d k; omega) (fun ys k hk hy => by
    simp only [List.length_nil] at hy
    simp only [spec_FreshWear.l_6, Option.bind_some, e, specIn hf hd k (by omega) ys (by omega), spec_FreshWear.k_9]
    rw [if_pos (by simp; omega)]) (fun ys => by simp [spec_FreshWear.l_6, e])
  rw [this, List.nil_append]
  rfl
theorem freshWear_same (f : GFrame) (d : Arr 96 Int) (hi : FIn f) (hd : DIn d) (hf : f.fHammers.length ≤ 1048576) :
    ∃ r, impl_FreshWear f d = some r ∧ spec_FreshWear f d = some r ∧ r.1.fPins.length + r.1.fStrokes.length ≤ 4096 := by
  simp only [impl_FreshWear, spec_FreshWear, drumCode1 f hi (by omega) d hd, l02Asked_is f hi (by omega) d hd, Option.bind_some]
  by_cases c : frameB f = true ∧ drumB f d = true
  · have hok := frameB_ok c.1 hi
    have h1 := hok.h1
    have hl := fpins_len hok d
    simp only [if_pos c, bne_self_eq_false, Bool.false_eq_true, if_false]
    rw [if_pos (by omega), if_pos (by omega)]
    simp only [implOut hok hd, specOut hok hd, Option.bind_some, spec_FreshWear.k_3]
    exact ⟨_, rfl, rfl, by simp; omega⟩
  · simp only [if_neg c]
    exact ⟨(⟨[], []⟩, 1), by simp, by simp, by simp⟩

end Go.Proofs.Ytfkjghkjimcmdaa
