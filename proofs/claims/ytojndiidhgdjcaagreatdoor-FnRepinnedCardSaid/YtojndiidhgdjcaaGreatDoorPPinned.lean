/- What a pinning is: each note has one pin, each pin a note; its new pins are counted. -/
import Derived.Test.YtojndiidhgdjcaaGreatDoorT
import Derived.Test.YtojndiidhgdjcaaGreatDoorPFrame
import Derived.Test.YtojndiidhgdjcaaGreatDoorPDrum
import Derived.Test.YtojndiidhgdjcaaGreatDoorPCodes
import Derived.Test.YtojndiidhgdjcaaGreatDoorPPut
import Derived.Test.YtojndiidhgdjcaaGreatDoorPTune
import Derived.Test.YtojndiidhgdjcaaGreatDoorPMadeS
import Derived.Test.YtojndiidhgdjcaaGreatDoorPChoices
import Derived.Test.YtojndiidhgdjcaaGreatDoorPFit
import Derived.Test.YtojndiidhgdjcaaGreatDoorPPlc
import Derived.Test.YtojndiidhgdjcaaGreatDoorPByTr
import Derived.Test.YtojndiidhgdjcaaGreatDoorPWithout
import Derived.Test.YtojndiidhgdjcaaGreatDoorPPins
import Derived.Test.YtojndiidhgdjcaaGreatDoorPPinRun
import Derived.Test.YtojndiidhgdjcaaGreatDoorPPinTune
import Derived.Test.YtojndiidhgdjcaaGreatDoorPPinLaw
import Derived.Test.YtojndiidhgdjcaaGreatDoorPBits
import Derived.Test.YtojndiidhgdjcaaGreatDoorPClash
import Derived.Test.YtojndiidhgdjcaaGreatDoorPCost
import Derived.Test.YtojndiidhgdjcaaGreatDoorPure
namespace Go.Proofs.YtojndiidhgdjcaaGreatDoor
open Eng
set_option linter.unusedVariables false
set_option linter.unusedSimpArgs false

def ptc (f : GFrame) (k : Nat) : Option Int := (f.fHammers[k]?).map GHammer.fPitch
theorem ptk_pitch {f : GFrame} {d : Arr 96 Int} {n : GNote} {k : Nat} (h : k ∈ ptk f d n) : ptc f k = some n.fPitch := by
  unfold ptk at h
  obtain ⟨_, h2⟩ := List.mem_filter.1 h
  unfold ptkB at h2
  simp only [Bool.and_eq_true, decide_eq_true_eq] at h2
  exact h2.1
structure Pd (f : GFrame) (t : List GNote) (D : Arr 96 Int) : Prop where
  dg : DG f D
  cnt : cntD D = t.length
  src : ∀ s k, pin D s k = true → ∃ n ∈ t, n.fAt = (s : Int) ∧ ptc f k = some n.fPitch
  has : ∀ n ∈ t, ∃ k, k < f.fHammers.length ∧ pin D n.fAt.toNat k = true ∧ ptc f k = some n.fPitch
  one : ∀ s k k', pin D s k = true → pin D s k' = true → ptc f k = ptc f k' → k = k'
theorem pd_rep (f : GFrame) : Pd f [] (Arr.rep 96 0) := ⟨dg_rep f, cnt_rep, fun s k h => (by rw [pin_rep] at h; cases h), fun n hn => (by cases hn), fun s k k' h => (by rw [pin_rep] at h; cases h)⟩
theorem beyond_setP {d old : Arr 96 Int} (hd : DIn d) {s k : Nat} (hs : s < 96) (hk : k < 32) (h0 : pin d s k = false) : beyond (setP d s k) old = beyond d old + (if pin old s k = true then 0 else 1) := by
  have hp := pin_setP hd hs hk
  unfold beyond
  by_cases c : pin old s k = true
  · rw [if_pos c]
    refine (sR_ext 96 fun a ha => cR_ext 32 fun b hb => ?_).trans (Nat.add_zero _).symm
    rw [hp]
    by_cases e : a = s ∧ b = k
    · obtain ⟨rfl, rfl⟩ := e; simp [c]
    · have : (decide (a = s) && decide (b = k)) = false := by rw [Bool.eq_false_iff]; simpa using e
      rw [this, Bool.or_false]
  · rw [if_neg c]
    have c : pin old s k = false := by simpa using c
    refine sR_one (s := s) ?_ ?_ 96 hs
    · rw [← cR_put (p := fun b => pin d s b && !pin old s b) (t := k) (by simp [h0]) 32 hk]
      refine cR_ext 32 fun b hb => ?_
      rw [hp]
      by_cases e : b = k
      · subst e; simp [c]
      · simp [e]
    · intro a ha
      exact cR_ext 32 fun b hb => by rw [hp]; simp [ha]
theorem beyond_rep (old : Arr 96 Int) : beyond (Arr.rep 96 0) old = 0 := by
  have h : ∀ n, sR (fun s => cR (fun t => pin (Arr.rep 96 0) s t && !pin old s t) 32) n = 0 := by
    intro n
    induction n with
    | zero => rfl
    | succ n ih => unfold sR; rw [ih, cR_none 32 (fun i _ => by rw [pin_rep]; rfl)]
  exact h 96
theorem pd_step {f : GFrame} (hf : FOk f) {pre : List GNote} {d : Arr 96 Int} (hp : Pd f pre d) {n : GNote} (hn : 0 ≤ n.fAt ∧ n.fAt < f.fSteps) (hb : ∀ m ∈ pre, befN m n = true) {k : Nat} (hk : k ∈ ptk f d n) : Pd f (pre ++ [n]) (setP d n.fAt.toNat k) := by
  obtain ⟨h1, h2⟩ := ptk_mem hk
  have h3 := ptk_pitch hk
  have h4 := free_pin h2
  have hs1 := hf.s1; have hh1 := hf.h1
  have hq := pin_setP hp.dg.din (show n.fAt.toNat < 96 by omega) (show k < 32 by omega)
  refine ⟨dg_set hf hp.dg (by omega) h1 h2, ?_, fun s b h => ?_, fun m hm => ?_, fun s b b' h h' e => ?_⟩
  · rw [cnt_setP hp.dg.din (by omega) (by omega) h4, hp.cnt]; simp
  · rw [hq] at h
    simp only [Bool.or_eq_true, Bool.and_eq_true, decide_eq_true_eq] at h
    rcases h with h | ⟨rfl, rfl⟩
    · obtain ⟨m, a1, a2⟩ := hp.src s b h
      exact ⟨m, List.mem_append_left _ a1, a2⟩
    · exact ⟨n, by simp, by omega, h3⟩
  · rcases List.mem_append.1 hm with hm | hm
    · obtain ⟨b, a1, a2, a3⟩ := hp.has m hm
      exact ⟨b, a1, by rw [hq, a2, Bool.true_or], a3⟩
    · obtain rfl := List.mem_singleton.1 hm
      exact ⟨k, h1, by rw [hq]; simp, h3⟩
  · have old : ∀ b, pin d n.fAt.toNat b = true → ptc f b = ptc f k → False := fun b hb2 e2 => by
      obtain ⟨m, a1, a2, a3⟩ := hp.src _ b hb2
      have e3 : m.fPitch = n.fPitch := by rw [e2, h3] at a3; exact (Option.some.inj a3).symm
      have e4 : m = n := note_ext (by omega) e3
      exact befN_irrefl n (e4 ▸ hb m a1)
    rw [hq] at h h'
    simp only [Bool.or_eq_true, Bool.and_eq_true, decide_eq_true_eq] at h h'
    rcases h with h | ⟨rfl, rfl⟩
    · rcases h' with h' | ⟨rfl, rfl⟩
      · exact hp.one s b b' h h' e
      · exact (old b h e).elim
    · rcases h' with h' | ⟨_, rfl⟩
      · exact (old b' h' e.symm).elim
      · rfl
theorem way_pd {f : GFrame} (hf : FOk f) {old : Arr 96 Int} : ∀ (ns pre : List GNote) (d : Arr 96 Int) (x : Int) (D : Arr 96 Int) (c : Int), (∀ n ∈ ns, 0 ≤ n.fAt ∧ n.fAt < f.fSteps) → (pre ++ ns).Pairwise (fun a b => befN a b = true) → Pd f pre d → Way f old ns d x D c →
    Pd f (pre ++ ns) D ∧ c + beyond d old = x + beyond D old
  | [], pre, d, x, D, c, _, _, hp, hw => by
    obtain ⟨rfl, rfl⟩ := hw
    rw [List.append_nil]
    exact ⟨hp, rfl⟩
  | n :: ns, pre, d, x, D, c, hn, hs, hp, hw => by
    obtain ⟨k, hk, hw⟩ := hw
    have hn0 := hn n List.mem_cons_self
    have hs1 := hf.s1; have hh1 := hf.h1
    obtain ⟨h1, h2⟩ := ptk_mem hk
    have hb : ∀ m ∈ pre, befN m n = true := fun m hm => (List.pairwise_append.1 hs).2.2 m hm n List.mem_cons_self
    have e : pre ++ n :: ns = (pre ++ [n]) ++ ns := by simp
    rw [e] at hs ⊢
    obtain ⟨g1, g2⟩ := way_pd hf ns (pre ++ [n]) _ _ D c (fun m hm => hn m (List.mem_cons_of_mem _ hm)) hs (pd_step hf hp hn0 hb hk) hw
    refine ⟨g1, ?_⟩
    rw [beyond_setP hp.dg.din (by omega) (by omega) (free_pin h2)] at g2
    unfold freshV at g2
    by_cases co : pin old n.fAt.toNat k = true
    · rw [if_pos co, if_pos co] at g2; omega
    · rw [if_neg co, if_neg co] at g2; omega
theorem way_pinned {f : GFrame} (hf : FOk f) {old : Arr 96 Int} {t : List GNote} (ht : TOk t) (hs : ∀ n ∈ t, n.fAt < f.fSteps) {D : Arr 96 Int} {c : Int} (hw : Way f old t (Arr.rep 96 0) 0 D c) : Pd f t D ∧ c = (beyond D old : Nat) := by
  obtain ⟨h1, h2⟩ := way_pd hf t [] _ 0 D c (fun n hn => ⟨(ht.nt n hn).1, hs n hn⟩) (by simpa using ht.so) (pd_rep f) hw
  rw [beyond_rep] at h2
  exact ⟨by simpa using h1, by omega⟩
/-- any pinning is a way of the search -/
theorem way_old {f : GFrame} {old old' : Arr 96 Int} : ∀ (ns : List GNote) (d : Arr 96 Int) (x x' : Int) (D : Arr 96 Int) (c : Int), Way f old ns d x D c → ∃ c', Way f old' ns d x' D c'
  | [], d, x, x', D, c, h => ⟨x', h.1, rfl⟩
  | n :: ns, d, x, x', D, c, h => by
    obtain ⟨k, hk, h⟩ := h
    obtain ⟨c', h'⟩ := way_old ns _ _ (freshV old' n.fAt.toNat k x') D c h
    exact ⟨c', k, hk, h'⟩
theorem cR_swap (p q : Nat → Bool) : ∀ n, cR p n + cR (fun i => q i && !p i) n = cR q n + cR (fun i => p i && !q i) n
  | 0 => rfl
  | n + 1 => by
    have := cR_swap p q n
    simp only [cR]
    by_cases h1 : p n = true <;> by_cases h2 : q n = true <;> simp [h1, h2] <;> omega
theorem cnt_swap (a b : Arr 96 Int) : cntD a + beyond b a = cntD b + beyond a b := by
  unfold cntD beyond
  rw [sR_add, sR_add]
  exact sR_ext 96 fun s _ => cR_swap (fun t => pin a s t) (fun t => pin b s t) 32
theorem beyond_self (a : Arr 96 Int) : beyond a a = 0 := by
  have h : ∀ n, sR (fun s => cR (fun t => pin a s t && !pin a s t) 32) n = 0 := by
    intro n
    induction n with
    | zero => rfl
    | succ n ih => unfold sR; rw [ih, cR_none 32 (fun i _ => by cases pin a n i <;> rfl)]
  exact h 96
theorem same_sub {a b : Arr 96 Int} (ha : DIn a) (hb : DIn b) (h0 : beyond a b = 0) (hc : cntD a = cntD b) : a = b := by
  have h1 := cnt_swap a b
  refine (distD_zero ha hb).1 ?_
  unfold distD
  omega

end Go.Proofs.YtojndiidhgdjcaaGreatDoor
