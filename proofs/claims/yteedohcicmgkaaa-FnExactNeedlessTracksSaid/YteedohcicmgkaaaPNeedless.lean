/- Tracks that can be left out: the program's list is the reference's. -/
import Derived.Test.YteedohcicmgkaaaM0
import Derived.Test.YteedohcicmgkaaaM1
import Derived.Test.YteedohcicmgkaaaPFrame
import Derived.Test.YteedohcicmgkaaaPDrum
import Derived.Test.YteedohcicmgkaaaPCodes
import Derived.Test.YteedohcicmgkaaaPPut
import Derived.Test.YteedohcicmgkaaaPTune
import Derived.Test.YteedohcicmgkaaaPChoices
import Derived.Test.YteedohcicmgkaaaPFit
import Derived.Test.YteedohcicmgkaaaPPlc
import Derived.Test.YteedohcicmgkaaaPByTr
import Derived.Test.YteedohcicmgkaaaPWithout
import Derived.Test.YteedohcicmgkaaaPPins
import Derived.Test.YteedohcicmgkaaaPPinRun
import Derived.Test.YteedohcicmgkaaaPPinTune
import Derived.Test.YteedohcicmgkaaaPure
namespace Go.Proofs.Yteedohcicmgkaaa
open Eng
set_option linter.unusedVariables false
set_option linter.unusedSimpArgs false

theorem lessF_in {f : GFrame} (hi : FIn f) (k : Nat) : FIn (lessF f k) := by
  refine ⟨hi.1, fun h hh => hi.2 h ?_⟩
  rcases List.mem_append.1 hh with h1 | h1
  · exact List.mem_of_mem_take h1
  · exact List.mem_of_mem_drop h1
theorem lessF_len (f : GFrame) (k : Nat) : (lessF f k).fHammers.length ≤ f.fHammers.length + f.fHammers.length := by
  unfold lessF
  simp only [List.length_append, List.length_take, List.length_drop]
  omega
def needV (f : GFrame) (t : List GNote) : List Int := (List.range f.fHammers.length).flatMap fun k => if (pinTuneV (lessF f k) t 20000).2.2 = 0 then [(k : Int)] else []
theorem needless_same {f : GFrame} {t : List GNote} (hi : FIn f) (hl : f.fHammers.length ≤ 9223372036854775807) (ht : t.length ≤ 9223372036854775807) (hn : ∀ n ∈ t, NIn n) :
    ∃ r, impl_NeedlessTracks f t = some r ∧ spec_NeedlessTracks f t = some r ∧ r.1.length ≤ 24 := by
  simp only [impl_NeedlessTracks, spec_NeedlessTracks, tuneOn_is 0 hi hl ht hn, l03Fits_is 0 hi hl ht hn, Option.bind_some, impl_size_Hammer]
  by_cases h0 : fitsV f t 0 = 0
  · have ok := fits_ok hi h0 (old := Arr.rep 96 0) DIn_rep
    have hh0 := ok.hf.h0; have hh1 := ok.hf.h1
    have hpt : ∀ k, impl_PinTune (lessF f k) t 20000 = some (pinTuneV (lessF f k) t 20000) ∧ spec_PinTune (lessF f k) t 20000 = some (pinTuneV (lessF f k) t 20000) := fun k => by
      have := lessF_len f k
      exact pinTune_is 20000 (lessF_in hi k) (by omega) ht hn
    have hstep : ∀ k : Nat, (if (pinTuneV (lessF f k) t 20000).2.2 = 0 then [(k : Int)] else []).length ≤ 1 := fun k => by split <;> simp
    have h1 := loop_app (f := impl_NeedlessTracks.l_7 f t (f.fHammers.length : Int)) f.fHammers.length 1 (by omega) (fun k => if (pinTuneV (lessF f k) t 20000).2.2 = 0 then [(k : Int)] else []) [] (fun k _ => hstep k) (fun xs k hk hx => by
      simp only [List.length_nil] at hx
      simp only [impl_NeedlessTracks.l_7, without_is ok.hf hk, (hpt k).1, Option.bind_some]
      rw [if_pos (by rw [decide_eq_true_eq]; omega)]
      by_cases c : (pinTuneV (lessF f k) t 20000).2.2 = 0
      · rw [if_pos (by simpa using c), if_pos c, if_pos (by simp only [List.length_cons, List.length_nil]; omega)]
      · rw [if_neg (by simpa using c), if_neg c, List.append_nil]) (fun xs => by simp [impl_NeedlessTracks.l_7])
    have hlen : (needV f t).length ≤ 24 := by
      have := app_len f.fHammers.length 1 (fun k => if (pinTuneV (lessF f k) t 20000).2.2 = 0 then [(k : Int)] else []) (fun k _ => hstep k)
      unfold needV
      omega
    rw [List.nil_append] at h1
    rw [if_neg (by rw [h0]; simp), if_neg (by rw [h0]; simp), h1]
    refine ⟨(needV f t, 0), ?_, ?_, hlen⟩
    · simp only [Option.bind_some, impl_NeedlessTracks.k_4, needV]
    · by_cases hone : f.fHammers.length = 1
      · have e0 : needV f t = [] := by
          unfold needV
          rw [hone]
          have hb : frameB (lessF f 0) = false := by
            unfold frameB
            have : (lessF f 0).fHammers.length = 0 := by unfold lessF; simp; omega
            simp [this]
          have : fitsV (lessF f 0) t 20000 = 1 := by unfold fitsV; rw [if_neg (by rw [hb]; simp)]
          simp [pinTuneV, this]
        have : loop (spec_NeedlessTracks.l_6 f t) (([] : List Int), 0) = some [] := by
          rw [loop_eq]
          simp [spec_NeedlessTracks.l_6, hone]
        rw [this, e0]
        rfl
      · have h2 := loop_app (f := spec_NeedlessTracks.l_6 f t) f.fHammers.length 1 (by omega) (fun k => if (pinTuneV (lessF f k) t 20000).2.2 = 0 then [(k : Int)] else []) [] (fun k _ => hstep k) (fun xs k hk hx => by
          simp only [List.length_nil] at hx
          simp only [spec_NeedlessTracks.l_6, less_is ok.hf hk, (hpt k).2, Option.bind_some]
          rw [if_pos (by simp; omega)]
          by_cases c : (pinTuneV (lessF f k) t 20000).2.2 = 0
          · rw [if_pos (by simpa using c), if_pos c, if_pos (by simp only [List.length_cons, List.length_nil]; omega)]
          · rw [if_neg (by simpa using c), if_neg c, List.append_nil]) (fun xs => by simp [spec_NeedlessTracks.l_6])
        rw [h2, List.nil_append]
        simp only [Option.bind_some, spec_NeedlessTracks.k_3, needV]
  · rw [if_pos (by simpa using h0), if_pos (by simpa using h0)]
    exact ⟨_, rfl, rfl, by simp⟩

end Go.Proofs.Yteedohcicmgkaaa
