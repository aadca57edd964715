/- The part that is worn out first, and how many turns are left: the program's answers are the reference's. -/
import Derived.Test.YtfkjghkjimcmdaaM0
import Derived.Test.YtfkjghkjimcmdaaM2
import Derived.Test.YtfkjghkjimcmdaaPFrame
import Derived.Test.YtfkjghkjimcmdaaPDrum
import Derived.Test.YtfkjghkjimcmdaaPWear
import Derived.Test.YtfkjghkjimcmdaaPPut
import Derived.Test.YtfkjghkjimcmdaaPWDrum
import Derived.Test.YtfkjghkjimcmdaaPEach
import Derived.Test.YtfkjghkjimcmdaaPParts
import Derived.Test.YtfkjghkjimcmdaaPure
namespace Go.Proofs.Ytfkjghkjimcmdaa
open Eng
set_option linter.unusedVariables false
set_option linter.unusedSimpArgs false

def leftV (p : Gpart) : Int := if p.feach = 0 then 1000000 else if 1000000 < w64 (Int.tdiv (w64 (p.flife - p.fmade)) p.feach) then 1000000 else w64 (Int.tdiv (w64 (p.flife - p.fmade)) p.feach)
theorem left_is (p : Gpart) : impl_part_left p = some (leftV p) := by
  unfold impl_part_left leftV
  by_cases h : p.feach = 0 <;> simp [h]
theorem l06Left_is (p : Gpart) : spec_l06Left p.fmade p.feach p.flife = some (leftV p) := by
  unfold spec_l06Left leftV spec_l00Min
  by_cases h : p.feach = 0
  · simp [h]
  · simp only [h, if_false]
    rw [if_neg (by simpa using h), if_pos h]
    by_cases h2 : 1000000 < w64 (Int.tdiv (w64 (p.flife - p.fmade)) p.feach)
    · simp [h2]
    · simp [h2]
theorem leftV_le (p : Gpart) : leftV p ≤ 1000000 := by
  unfold leftV
  split
  · omega
  · split <;> omega
def stepF (s : Gpart × Int) (p : Gpart) : Gpart × Int := if leftV p < s.2 then (p, leftV p) else s
def zeroPart : Gpart := ⟨0, 0, 0, 0, 0⟩
def firstF (ps : List Gpart) : Gpart × Int := ps.foldl stepF (zeroPart, 1000000)
theorem foldl_snoc {A B : Type} (g : A → B → A) (a : A) (l : List B) (b : B) : (l ++ [b]).foldl g a = g (l.foldl g a) b := by rw [List.foldl_append]; rfl
theorem first_is (ps : List Gpart) (hl : ps.length ≤ 9223372036854775807) : loop (impl_Wear_first.l_16 ps) (0, 0, 0, 0, 0, 1000000, 0) = some ((firstF ps).1.fmade, (firstF ps).1.feach, (firstF ps).1.flife, (firstF ps).1.fstep, (firstF ps).1.ftrack, (firstF ps).2) := by
  have := loop_seq (f := impl_Wear_first.l_16 ps) ps.length (fun k => let r := firstF (ps.take k); (r.1.fmade, r.1.feach, r.1.flife, r.1.fstep, r.1.ftrack, r.2, (k : Int)))
    ((firstF ps).1.fmade, (firstF ps).1.feach, (firstF ps).1.flife, (firstF ps).1.fstep, (firstF ps).1.ftrack, (firstF ps).2) (fun k hk => by
      simp only [impl_Wear_first.l_16, ix_lt hk, Option.bind_some, left_is]
      have e : firstF (ps.take (k + 1)) = stepF (firstF (ps.take k)) ps[k] := by
        unfold firstF
        rw [List.take_succ_eq_append_getElem hk, foldl_snoc]
      have e2 : w64 ((k : Int) + 1) = ((k + 1 : Nat) : Int) := by rw [w64_in (by omega) (by omega)]; omega
      rw [if_pos (by simpa using hk), e, e2]
      unfold stepF
      by_cases c : leftV ps[k] < (firstF (ps.take k)).2
      · rw [if_pos (by simpa using c), if_pos c]
      · rw [if_neg (by simpa using c), if_neg c]) (by simp [impl_Wear_first.l_16])
  simpa [firstF, zeroPart] using this
/-- where the least is first -/
theorem firstF_spec (ps : List Gpart) : (∀ p ∈ ps, (firstF ps).2 ≤ leftV p) ∧ (firstF ps).2 ≤ 1000000 ∧ ((firstF ps).2 < 1000000 → ∃ (k : Nat) (hk : k < ps.length), (firstF ps).1 = ps[k] ∧ (firstF ps).2 = leftV ps[k] ∧ ∀ i (hi : i < ps.length), i < k → (firstF ps).2 < leftV ps[i]) := by
  have key : ∀ n, n ≤ ps.length → (∀ i (hi : i < ps.length), i < n → (firstF (ps.take n)).2 ≤ leftV ps[i]) ∧ (firstF (ps.take n)).2 ≤ 1000000 ∧ ((firstF (ps.take n)).2 < 1000000 → ∃ (k : Nat) (hk : k < ps.length), k < n ∧ (firstF (ps.take n)).1 = ps[k] ∧ (firstF (ps.take n)).2 = leftV ps[k] ∧ ∀ i (hi : i < ps.length), i < k → (firstF (ps.take n)).2 < leftV ps[i]) := by
    intro n
    induction n with
    | zero => intro _; simp [firstF]
    | succ n ih =>
      intro hn
      obtain ⟨h1, h2, h3⟩ := ih (by omega)
      have e : firstF (ps.take (n + 1)) = stepF (firstF (ps.take n)) (ps[n]'(by omega)) := by
        unfold firstF
        rw [List.take_succ_eq_append_getElem (by omega), foldl_snoc]
      rw [e]
      unfold stepF
      by_cases c : leftV (ps[n]'(by omega)) < (firstF (ps.take n)).2
      · simp only [if_pos c]
        refine ⟨fun i hi hin => ?_, by omega, fun _ => ⟨n, by omega, by omega, rfl, rfl, fun i hi hin => ?_⟩⟩
        · by_cases e : i = n
          · subst e; exact Int.le_refl _
          · have := h1 i hi (by omega); omega
        · have := h1 i hi (by omega); omega
      · simp only [if_neg c]
        refine ⟨fun i hi hin => ?_, h2, fun h => ?_⟩
        · by_cases e : i = n
          · subst e; omega
          · exact h1 i hi (by omega)
        · obtain ⟨k, hk, a, b, cc, d⟩ := h3 h
          exact ⟨k, hk, by omega, b, cc, d⟩
  have := key ps.length (Nat.le_refl _)
  rw [List.take_length] at this
  obtain ⟨h1, h2, h3⟩ := this
  refine ⟨fun p hp => ?_, h2, fun h => ?_⟩
  · obtain ⟨i, hi, rfl⟩ := List.mem_iff_getElem.1 hp
    exact h1 i hi hi
  · obtain ⟨k, hk, _, b, c, d⟩ := h3 h
    exact ⟨k, hk, b, c, d⟩
/-! ### the reference's least -/
def minF (m : Int) (p : Gpart) : Int := if m < leftV p then m else leftV p
theorem minF_step (s : Gpart × Int) (p : Gpart) : (stepF s p).2 = minF s.2 p := by
  unfold stepF minF
  split <;> split <;> (try simp only) <;> omega
theorem minF_fold (ps : List Gpart) : ∀ s : Gpart × Int, (ps.foldl stepF s).2 = ps.foldl minF s.2 := by
  induction ps with
  | nil => intro s; rfl
  | cons p ps ih => intro s; rw [List.foldl_cons, List.foldl_cons, ih, minF_step]
theorem least_is {f : GFrame} {w : GWear} (h : WOk f w) (hp : w.fPins.length ≤ 1048576) (v : GLives) : spec_l06Least w v = some (firstF (partsL f w v)).2 := by
  have hh1 := h.fr.h1
  have l1 : loop (spec_l06Least.l_16 w v) (1000000, 0) = some ((w.fPins.map (pinPart v)).foldl minF 1000000) :=
    loop_take (f := spec_l06Least.l_16 w v) w.fPins (by omega) (fun ps => (ps.map (pinPart v)).foldl minF 1000000) id (fun k hk => by
      have e := l06Left_is (pinPart v w.fPins[k])
      simp only [pinPart] at e
      simp only [spec_l06Least.l_16, ix_lt hk, Option.bind_some, e]
      rw [if_pos (by simpa using hk), List.map_append, List.map_cons, List.map_nil, foldl_snoc]
      simp only [spec_l00Min]
      generalize (List.map (pinPart v) (w.fPins.take k)).foldl minF 1000000 = z
      unfold minF
      simp only [pinPart]
      by_cases c : z < leftV ⟨w.fPins[k].fTurns, 1, v.fPin, w.fPins[k].fStep, w.fPins[k].fTrack⟩
      · simp [c]
      · simp [c]) (by simp [spec_l06Least.l_16])
  have l2 : ∀ m0, loop (spec_l06Least.l_8 w v (eachL f.fHammers.length w.fPins)) (m0, 0) = some (((List.range f.fHammers.length).map (hamPart w v)).foldl minF m0) := by
    intro m0
    exact loop_take (f := spec_l06Least.l_8 w v (eachL f.fHammers.length w.fPins)) (List.range f.fHammers.length) (by simp; omega) (fun ts => (ts.map (hamPart w v)).foldl minF m0) id (fun k hk => by
      have hk : k < f.fHammers.length := by simpa using hk
      have e := l06Left_is (hamPart w v k)
      simp only [hamPart] at e
      simp only [spec_l06Least.l_8, (stroke_ix h hk).1, ix_get (eachL_get f.fHammers.length w.fPins k hk), Option.bind_some, e, eachL_len, List.getElem_range]
      rw [if_pos (by simpa using hk), List.map_append, List.map_cons, List.map_nil, foldl_snoc]
      simp only [spec_l00Min]
      generalize (List.map (hamPart w v) ((List.range f.fHammers.length).take k)).foldl minF m0 = z
      unfold minF
      simp only [hamPart]
      by_cases c : z < leftV ⟨stroke w k, (cnt w.fPins k : Int), v.fHammer, -1, (k : Int)⟩
      · simp [c]
      · simp [c]) (by simp [spec_l06Least.l_8, eachL_len])
  simp only [spec_l06Least, l06Each_is h hp, Option.bind_some, l1, spec_l06Least.k_3, l2, spec_l06Least.k_5]
  congr 1
  unfold firstF partsL
  rw [minF_fold, List.foldl_append]
theorem whole_is {f : GFrame} {w : GWear} (h : WOk f w) (hp : w.fPins.length ≤ 1048576) (v : GLives) : spec_l06Whole w v = some (!((partsL f w v).any wornB)) := by
  simp only [spec_l06Whole, worn_is h hp v, Option.bind_some, worn_any, Bool.not_not]
  congr 1
  rw [Bool.eq_iff_iff]
  simp only [Bool.and_eq_true, beq_iff_eq, decide_eq_true_eq]
  constructor
  · rintro ⟨a, b⟩; exact ⟨List.eq_nil_of_length_eq_zero (by omega), List.eq_nil_of_length_eq_zero (by omega)⟩
  · rintro ⟨a, b⟩; rw [a, b]; exact ⟨rfl, rfl⟩
theorem lifeCode_is {f : GFrame} {w : GWear} {v : GLives} (hi : FIn f) (hw : WIn w) (hf : f.fHammers.length ≤ 1048576) (hp : w.fPins.length ≤ 1048576) (hs : w.fStrokes.length ≤ 1048576) :
    impl_lifeCode f w v = some (if wearB f w = true ∧ livB v = true then (if (partsL f w v).any wornB = true then 4 else 0) else 1) := by
  simp only [impl_lifeCode, wearCode1 f w hf hp hs v, Option.bind_some]
  by_cases c : wearB f w = true ∧ livB v = true
  · have hok := wearB_ok c.1 hi hw
    have hh1 := hok.fr.h1
    have hl := partsL_len f w v
    simp only [if_pos c, parts_is hok hp v, Option.bind_some, contains_worn _ (show (partsL f w v).length ≤ 9223372036854775807 by omega), unless_is]
    cases (partsL f w v).any wornB <;> simp
  · simp only [if_neg c]
    simp

end Go.Proofs.Ytfkjghkjimcmdaa
