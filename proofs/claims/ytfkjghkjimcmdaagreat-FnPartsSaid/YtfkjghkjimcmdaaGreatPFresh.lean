/- A fresh wear: the program's way is the reference's. -/
import Derived.Test.YtfkjghkjimcmdaaGreatM0
import Derived.Test.YtfkjghkjimcmdaaGreatPFrame
import Derived.Test.YtfkjghkjimcmdaaGreatPDrum
import Derived.Test.YtfkjghkjimcmdaaGreatPCodes
import Derived.Test.YtfkjghkjimcmdaaGreatPure
namespace Go.Proofs.YtfkjghkjimcmdaaGreat
open Eng
set_option linter.unusedVariables false
set_option linter.unusedSimpArgs false

def fp (d : Arr 96 Int) (s t : Nat) : List GWornPin := if pin d s t = true then [⟨(s : Int), (t : Int), 0⟩] else []
theorem fp_len (d : Arr 96 Int) (s t : Nat) : (fp d s t).length ≤ 1 := by unfold fp; split <;> simp
def fr (n : Nat) (d : Arr 96 Int) (s : Nat) : List GWornPin := (List.range n).flatMap (fp d s)
theorem fr_len (n : Nat) (d : Arr 96 Int) (s : Nat) : (fr n d s).length ≤ n * 1 := app_len _ _ _ fun k _ => fp_len d s k
def fpins (f : GFrame) (d : Arr 96 Int) : List GWornPin := (List.range f.fSteps.toNat).flatMap (fr f.fHammers.length d)
theorem fpins_len {f : GFrame} (hf : FOk f) (d : Arr 96 Int) : (fpins f d).length ≤ 2304 := by
  have h1 := hf.h1; have h2 := hf.s1; have h3 := hf.s0
  have := app_len f.fSteps.toNat 24 (fr f.fHammers.length d) (fun k _ => by have := fr_len f.fHammers.length d k; omega)
  unfold fpins
  omega
theorem specIn {f : GFrame} (hf : FOk f) {d : Arr 96 Int} (hd : DIn d) (s : Nat) (hs : s < 96) (xs : List GWornPin) (hx : xs.length ≤ 4000) :
    loop (spec_FreshWear.l_12 f d (s : Int)) (xs, 0) = some (xs ++ fr f.fHammers.length d s) := by
  have h1 := hf.h1
  refine loop_app f.fHammers.length 1 (by omega) (fp d s) xs (fun k _ => fp_len d s k) (fun ys k hk hy => ?_) (fun ys => by simp [spec_FreshWear.l_12])
  simp only [spec_FreshWear.l_12, pin_is hd hs (t := k) (by omega), Option.bind_some]
  rw [if_pos (by simpa using hk)]
  unfold fp
  by_cases c : pin d s k = true
  · rw [if_pos c, if_pos c, w8_in (n := (s : Int)) (by omega) (by omega), w8_in (n := (k : Int)) (by omega) (by omega)]
    rw [if_pos (by simp only [List.length_cons, List.length_nil]; omega)]
  · rw [if_neg c, if_neg c, List.append_nil]
theorem specOut {f : GFrame} (hf : FOk f) {d : Arr 96 Int} (hd : DIn d) : loop (spec_FreshWear.l_6 f d) ([], 0) = some (fpins f d) := by
  have h1 := hf.h1; have h2 := hf.s1; have h3 := hf.s0
  have e : w64 f.fSteps = (f.fSteps.toNat : Int) := by rw [w64_in (by omega) (by omega)]; omega
  have := loop_app (f := spec_FreshWear.l_6 f d) f.fSteps.toNat 24 (by omega) (fr f.fHammers.length d) [] (fun k _ => by have := fr_len f.fHammers.length d k; omega) (fun ys k hk hy => by
    simp only [List.length_nil] at hy
    simp only [spec_FreshWear.l_6, Option.bind_some, e, specIn hf hd k (by omega) ys (by omega), spec_FreshWear.k_9]
    rw [if_pos (by simp; omega)]) (fun ys => by simp [spec_FreshWear.l_6, e])
  rw [this, List.nil_append]
  rfl
end Go.Proofs.YtfkjghkjimcmdaaGreat
