/- The part that is worn out first, and how many turns are left: the program's answers are the reference's. -/
import Derived.Test.YtfkjghkjimcmdaaGreatM1
import Derived.Test.YtfkjghkjimcmdaaGreatPFrame
import Derived.Test.YtfkjghkjimcmdaaGreatPDrum
import Derived.Test.YtfkjghkjimcmdaaGreatPWear
import Derived.Test.YtfkjghkjimcmdaaGreatPPut
import Derived.Test.YtfkjghkjimcmdaaGreatPWDrum
import Derived.Test.YtfkjghkjimcmdaaGreatPEach
import Derived.Test.YtfkjghkjimcmdaaGreatPParts
import Derived.Test.YtfkjghkjimcmdaaGreatPure
namespace Go.Proofs.YtfkjghkjimcmdaaGreat
open Eng
set_option linter.unusedVariables false
set_option linter.unusedSimpArgs false

def leftV (p : Gpart) : Int := if p.feach = 0 then 1000000 else if 1000000 < w64 (Int.tdiv (w64 (p.flife - p.fmade)) p.feach) then 1000000 else w64 (Int.tdiv (w64 (p.flife - p.fmade)) p.feach)
theorem leftV_le (p : Gpart) : leftV p ≤ 1000000 := by
  unfold leftV
  split
  · omega
  · split <;> omega
def stepF (s : Gpart × Int) (p : Gpart) : Gpart × Int := if leftV p < s.2 then (p, leftV p) else s
def zeroPart : Gpart := ⟨0, 0, 0, 0, 0⟩
def firstF (ps : List Gpart) : Gpart × Int := ps.foldl stepF (zeroPart, 1000000)
theorem foldl_snoc {A B : Type} (g : A → B → A) (a : A) (l : List B) (b : B) : (l ++ [b]).foldl g a = g (l.foldl g a) b := by rw [List.foldl_append]; rfl
/-- where the least is first -/
theorem firstF_spec (ps : List Gpart) : (∀ p ∈ ps, (firstF ps).2 ≤ leftV p) ∧ (firstF ps).2 ≤ 1000000 ∧ ((firstF ps).2 < 1000000 → ∃ (k : Nat) (hk : k < ps.length), (firstF ps).1 = ps[k] ∧ (firstF ps).2 = leftV ps[k] ∧ ∀ i (hi : i < ps.length), i < k → (firstF ps).2 < leftV ps[i]) := by
  have key : ∀ n, n ≤ ps.length → (∀ i (hi : i < ps.length), i < n → (firstF (ps.take n)).2 ≤ leftV ps[i]) ∧ (firstF (ps.take n)).2 ≤ 1000000 ∧ ((firstF (ps.take n)).2 < 1000000 → ∃ (k : Nat) (hk : k < ps.length), k < n ∧ (firstF (ps.take n)).1 = ps[k] ∧ (firstF (ps.take n)).2 = leftV ps[k] ∧ ∀ i (hi : i < ps.length), i < k → (firstF (ps.take n)).2 < leftV ps[i]) := by
    intro n
    induction n with
    | zero => intro _; simp [firstF]
    | succ n ih =>
      intro hn
      obtain ⟨h1, h2, h3⟩ := ih (by omega)
      have e : firstF (ps.take (n + 1)) = stepF (firstF (ps.take n)) (ps[n]'(by omega)) := by
        unfold firstF
        rw [List.take_succ_eq_append_getElem (by omega), foldl_snoc]
      rw [e]
      unfold stepF
      by_cases c : leftV (ps[n]'(by omega)) < (firstF (ps.take n)).2
      · simp only [if_pos c]
        refine ⟨fun i hi hin => ?_, by omega, fun _ => ⟨n, by omega, by omega, rfl, rfl, fun i hi hin => ?_⟩⟩
        · by_cases e : i = n
          · subst e; exact Int.le_refl _
          · have := h1 i hi (by omega); omega
        · have := h1 i hi (by omega); omega
      · simp only [if_neg c]
        refine ⟨fun i hi hin => ?_, h2, fun h => ?_⟩
        · by_cases e : i = n
          · subst e; omega
          · exact h1 i hi (by omega)
        · obtain ⟨k, hk, a, b, cc, d⟩ := h3 h
          exact ⟨k, hk, by omega, b, cc, d⟩
  have := key ps.length (Nat.le_refl _)
  rw [List.take_length] at this
  obtain ⟨h1, h2, h3⟩ := this
  refine ⟨fun p hp => ?_, h2, fun h => ?_⟩
  · obtain ⟨i, hi, rfl⟩ := List.mem_iff_getElem.1 hp
    exact h1 i hi hi
  · obtain ⟨k, hk, _, b, c, d⟩ := h3 h
    exact ⟨k, hk, b, c, d⟩
/-! ### the reference's least -/
def minF (m : Int) (p : Gpart) : Int := if m < leftV p then m else leftV p
theorem minF_step (s : Gpart × Int) (p : Gpart) : (stepF s p).2 = minF s.2 p := by
  unfold stepF minF
  split <;> split <;> (try simp only) <;> omega
theorem minF_fold (ps : List Gpart) : ∀ s : Gpart × Int, (ps.foldl stepF s).2 = ps.foldl minF s.2 := by
  induction ps with
  | nil => intro s; rfl
  | cons p ps ih => intro s; rw [List.foldl_cons, List.foldl_cons, ih, minF_step]
theorem whole_is {f : GFrame} {w : GWear} (h : WOk f w) (hp : w.fPins.length ≤ 1048576) (v : GLives) : spec_l06Whole w v = some (!((partsL f w v).any wornB)) := by
  simp only [spec_l06Whole, worn_is h hp v, Option.bind_some, worn_any, Bool.not_not]
  congr 1
  rw [Bool.eq_iff_iff]
  simp only [Bool.and_eq_true, beq_iff_eq, decide_eq_true_eq]
  constructor
  · rintro ⟨a, b⟩; exact ⟨List.eq_nil_of_length_eq_zero (by omega), List.eq_nil_of_length_eq_zero (by omega)⟩
  · rintro ⟨a, b⟩; rw [a, b]; exact ⟨rfl, rfl⟩
end Go.Proofs.YtfkjghkjimcmdaaGreat
