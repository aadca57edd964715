/- The search of pinnings: what is found is a pinning, and no pinning needs fewer new pins. -/
import Derived.Test.YtojndiidhgdjcaaGreatDoorT
import Derived.Test.YtojndiidhgdjcaaGreatDoorPFrame
import Derived.Test.YtojndiidhgdjcaaGreatDoorPDrum
import Derived.Test.YtojndiidhgdjcaaGreatDoorPCodes
import Derived.Test.YtojndiidhgdjcaaGreatDoorPPut
import Derived.Test.YtojndiidhgdjcaaGreatDoorPTune
import Derived.Test.YtojndiidhgdjcaaGreatDoorPChoices
import Derived.Test.YtojndiidhgdjcaaGreatDoorPFit
import Derived.Test.YtojndiidhgdjcaaGreatDoorPPlc
import Derived.Test.YtojndiidhgdjcaaGreatDoorPByTr
import Derived.Test.YtojndiidhgdjcaaGreatDoorPWithout
import Derived.Test.YtojndiidhgdjcaaGreatDoorPPins
import Derived.Test.YtojndiidhgdjcaaGreatDoorPPinRun
import Derived.Test.YtojndiidhgdjcaaGreatDoorPPinTune
import Derived.Test.YtojndiidhgdjcaaGreatDoorPure
namespace Go.Proofs.YtojndiidhgdjcaaGreatDoor
open Eng
set_option linter.unusedVariables false
set_option linter.unusedSimpArgs false

def Way (f : GFrame) (old : Arr 96 Int) : List GNote → Arr 96 Int → Int → Arr 96 Int → Int → Prop
  | [], d, x, D, c => D = d ∧ c = x
  | n :: ns, d, x, D, c => ∃ k, k ∈ ptk f d n ∧ Way f old ns (setP d n.fAt.toNat k) (freshV old n.fAt.toNat k x) D c
theorem freshV_ge (old : Arr 96 Int) (s k : Nat) (x : Int) : x ≤ freshV old s k x := by unfold freshV; split <;> omega
theorem way_ge {f : GFrame} {old : Arr 96 Int} : ∀ (ns : List GNote) (d : Arr 96 Int) (x : Int) (D : Arr 96 Int) (c : Int), Way f old ns d x D c → x ≤ c
  | [], d, x, D, c, h => by have := h.2; omega
  | n :: ns, d, x, D, c, h => by
    obtain ⟨k, _, h⟩ := h
    have h1 := way_ge ns _ _ _ _ h
    have h2 := freshV_ge old n.fAt.toNat k x
    omega
theorem pinL_way {old : Arr 96 Int} {s : Nat} {like : Bool} {budget : Int} {go : Arr 96 Int → Int → PS → PS} {d : Arr 96 Int} {fresh : Int} (W : Nat → Arr 96 Int → Int → Prop)
    (hgo : ∀ k r, (go (setP d s k) (freshV old s k fresh) r).found = true → (r.found = true ∧ (go (setP d s k) (freshV old s k fresh) r).best = r.best ∧ (go (setP d s k) (freshV old s k fresh) r).most = r.most) ∨ W k (go (setP d s k) (freshV old s k fresh) r).best (go (setP d s k) (freshV old s k fresh) r).most) :
    ∀ (ks : List Nat) (r R : PS), pinL old s like budget go d fresh ks r = R → R.found = true → (r.found = true ∧ R.best = r.best ∧ R.most = r.most) ∨ ∃ k ∈ ks, W k R.best R.most := by
  intro ks
  induction ks with
  | nil => intro r R e h; subst e; exact .inl ⟨h, rfl, rfl⟩
  | cons k ks ih =>
    intro r R e h
    by_cases hb : r.tries = budget
    · rw [pinL_bud hb] at e; subst e; exact .inl ⟨h, rfl, rfl⟩
    · by_cases hc : like = true ∧ r.found = true ∧ r.most ≤ freshV old s k fresh
      · rw [pinL_cut hb hc] at e
        rcases ih _ R e h with h1 | ⟨k', h1, h2⟩
        · exact .inl h1
        · exact .inr ⟨k', List.mem_cons_of_mem _ h1, h2⟩
      · have g := hgo k ⟨r.tries + 1, r.over, r.found, r.most, r.best⟩
        by_cases hs : stopB like (go (setP d s k) (freshV old s k fresh) ⟨r.tries + 1, r.over, r.found, r.most, r.best⟩) = true
        · rw [pinL_stop hb hc hs] at e
          rw [e] at g
          rcases g h with g | g
          · exact .inl g
          · exact .inr ⟨k, List.mem_cons_self, g⟩
        · rw [pinL_go hb hc hs] at e
          rcases ih _ R e h with ⟨h1, h2, h3⟩ | ⟨k', h1, h2⟩
          · rcases g h1 with ⟨g1, g2, g3⟩ | g
            · exact .inl ⟨g1, h2.trans g2, h3.trans g3⟩
            · refine .inr ⟨k, List.mem_cons_self, ?_⟩
              rw [h2, h3]; exact g
          · exact .inr ⟨k', List.mem_cons_of_mem _ h1, h2⟩
theorem pinS_succ {f : GFrame} {t : List GNote} {old : Arr 96 Int} {like : Bool} {budget : Int} {m i : Nat} {d : Arr 96 Int} {fresh : Int} {r : PS} (hi : i < t.length) :
    pinS f t old like budget (m + 1) i d fresh r = pinL old t[i].fAt.toNat like budget (pinS f t old like budget m (i + 1)) d fresh (ptk f d t[i]) r := by
  show (match t[i]? with | some n => pinL old n.fAt.toNat like budget (pinS f t old like budget m (i + 1)) d fresh (ptk f d n) r | none => r) = _
  rw [List.getElem?_eq_getElem hi]
theorem pinS_way {f : GFrame} {t : List GNote} {old : Arr 96 Int} {like : Bool} {budget : Int} : ∀ (m i : Nat) (d : Arr 96 Int) (fresh : Int) (r : PS), i + m = t.length → (pinS f t old like budget m i d fresh r).found = true →
    (r.found = true ∧ (pinS f t old like budget m i d fresh r).best = r.best ∧ (pinS f t old like budget m i d fresh r).most = r.most) ∨ Way f old (t.drop i) d fresh (pinS f t old like budget m i d fresh r).best (pinS f t old like budget m i d fresh r).most := by
  intro m
  induction m with
  | zero =>
    intro i d fresh r him h
    right
    rw [List.drop_of_length_le (by omega)]
    exact ⟨rfl, rfl⟩
  | succ m ih =>
    intro i d fresh r him h
    have hi : i < t.length := by omega
    rw [pinS_succ hi] at h ⊢
    rw [List.drop_eq_getElem_cons hi]
    exact pinL_way (old := old) (s := t[i].fAt.toNat) (like := like) (budget := budget) (go := pinS f t old like budget m (i + 1)) (d := d) (fresh := fresh) (W := fun k D c => Way f old (t.drop (i + 1)) (setP d t[i].fAt.toNat k) (freshV old t[i].fAt.toNat k fresh) D c) (fun k r h => ih (i + 1) _ _ r (by omega) h) _ r _ rfl h
theorem pinL_least {old : Arr 96 Int} {s : Nat} {budget : Int} {go : Arr 96 Int → Int → PS → PS} {d : Arr 96 Int} {fresh : Int} (W : Nat → Arr 96 Int → Int → Prop)
    (hW : ∀ k D c, W k D c → freshV old s k fresh ≤ c)
    (hgo : ∀ k r, r.over = false → (r.found = true → freshV old s k fresh < r.most) → (go (setP d s k) (freshV old s k fresh) r).over = false →
      (r.found = true → (go (setP d s k) (freshV old s k fresh) r).found = true ∧ (go (setP d s k) (freshV old s k fresh) r).most ≤ r.most) ∧ ∀ D c, W k D c → (go (setP d s k) (freshV old s k fresh) r).found = true ∧ (go (setP d s k) (freshV old s k fresh) r).most ≤ c) :
    ∀ (ks : List Nat) (r R : PS), pinL old s true budget go d fresh ks r = R → r.over = false → R.over = false → (r.found = true → R.found = true ∧ R.most ≤ r.most) ∧ ∀ k ∈ ks, ∀ D c, W k D c → R.found = true ∧ R.most ≤ c := by
  intro ks
  induction ks with
  | nil => intro r R e _ _; subst e; exact ⟨fun h => ⟨h, Int.le_refl _⟩, fun k hk => by cases hk⟩
  | cons k ks ih =>
    intro r R e ho hR
    by_cases hb : r.tries = budget
    · rw [pinL_bud hb] at e; subst e; cases hR
    · by_cases hc : true = true ∧ r.found = true ∧ r.most ≤ freshV old s k fresh
      · rw [pinL_cut hb hc] at e
        obtain ⟨h1, h2⟩ := ih _ R e ho hR
        refine ⟨h1, fun k' hk' D c hw => ?_⟩
        rcases List.mem_cons.1 hk' with rfl | hk'
        · obtain ⟨h3, h4⟩ := h1 hc.2.1
          have h4 : R.most ≤ r.most := h4
          have := hW _ D c hw
          have := hc.2.2
          exact ⟨h3, by omega⟩
        · exact h2 k' hk' D c hw
      · have g := hgo k ⟨r.tries + 1, r.over, r.found, r.most, r.best⟩ ho (fun hf => by
          have hf : r.found = true := hf
          show _ < r.most
          apply Int.lt_of_not_ge
          exact fun hle => hc ⟨rfl, hf, hle⟩)
        by_cases hs : stopB true (go (setP d s k) (freshV old s k fresh) ⟨r.tries + 1, r.over, r.found, r.most, r.best⟩) = true
        · rw [pinL_stop hb hc hs] at e
          rw [e] at hs
          unfold stopB at hs
          rw [hR] at hs
          simp at hs
        · rw [pinL_go hb hc hs] at e
          have hg : (go (setP d s k) (freshV old s k fresh) ⟨r.tries + 1, r.over, r.found, r.most, r.best⟩).over = false := by
            unfold stopB at hs
            simpa using hs
          obtain ⟨g1, g2⟩ := g hg
          obtain ⟨h1, h2⟩ := ih _ R e hg hR
          refine ⟨fun hf => ?_, fun k' hk' D c hw => ?_⟩
          · obtain ⟨a1, a2⟩ := g1 hf
            obtain ⟨b1, b2⟩ := h1 a1
            exact ⟨b1, Int.le_trans b2 a2⟩
          · rcases List.mem_cons.1 hk' with rfl | hk'
            · obtain ⟨a1, a2⟩ := g2 D c hw
              obtain ⟨b1, b2⟩ := h1 a1
              exact ⟨b1, Int.le_trans b2 a2⟩
            · exact h2 k' hk' D c hw
theorem pinS_least {f : GFrame} {t : List GNote} {old : Arr 96 Int} {budget : Int} : ∀ (m i : Nat) (d : Arr 96 Int) (fresh : Int) (r : PS), i + m = t.length → r.over = false → (r.found = true → fresh < r.most) → (pinS f t old true budget m i d fresh r).over = false →
    (r.found = true → (pinS f t old true budget m i d fresh r).found = true ∧ (pinS f t old true budget m i d fresh r).most ≤ r.most) ∧ ∀ D c, Way f old (t.drop i) d fresh D c → (pinS f t old true budget m i d fresh r).found = true ∧ (pinS f t old true budget m i d fresh r).most ≤ c := by
  intro m
  induction m with
  | zero =>
    intro i d fresh r him ho hlt hR
    refine ⟨fun h => ⟨rfl, ?_⟩, fun D c hw => ⟨rfl, ?_⟩⟩
    · have := hlt h
      show fresh ≤ r.most
      omega
    · rw [List.drop_of_length_le (by omega)] at hw
      have := hw.2
      show fresh ≤ c
      omega
  | succ m ih =>
    intro i d fresh r him ho hlt hR
    have hi : i < t.length := by omega
    rw [pinS_succ hi] at hR ⊢
    obtain ⟨h1, h2⟩ := pinL_least (old := old) (s := t[i].fAt.toNat) (budget := budget) (go := pinS f t old true budget m (i + 1)) (d := d) (fresh := fresh) (W := fun k D c => Way f old (t.drop (i + 1)) (setP d t[i].fAt.toNat k) (freshV old t[i].fAt.toNat k fresh) D c) (fun k D c h => way_ge _ _ _ _ _ h) (fun k r h1 h2 h3 => ih (i + 1) _ _ r (by omega) h1 h2 h3) _ r _ rfl ho hR
    refine ⟨h1, fun D c hw => ?_⟩
    rw [List.drop_eq_getElem_cons hi] at hw
    obtain ⟨k, hk, hw⟩ := hw
    exact h2 k hk D c hw
theorem pinV_way {f : GFrame} {t : List GNote} {old : Arr 96 Int} {like : Bool} {budget : Int} (h : (pinV f t old like budget).found = true) : Way f old t (Arr.rep 96 0) 0 (pinV f t old like budget).best (pinV f t old like budget).most := by
  unfold pinV at h ⊢
  rcases pinS_way t.length 0 (Arr.rep 96 0) 0 ⟨0, false, false, 0, Arr.rep 96 0⟩ (Nat.zero_add _) h with ⟨h1, _⟩ | h1
  · cases h1
  · rw [List.drop_zero] at h1; exact h1
theorem pinV_least {f : GFrame} {t : List GNote} {old : Arr 96 Int} {budget : Int} (h : (pinV f t old true budget).over = false) {D : Arr 96 Int} {c : Int} (hw : Way f old t (Arr.rep 96 0) 0 D c) : (pinV f t old true budget).found = true ∧ (pinV f t old true budget).most ≤ c := by
  unfold pinV at h ⊢
  have hw' : Way f old (t.drop 0) (Arr.rep 96 0) 0 D c := by rw [List.drop_zero]; exact hw
  have h0 : (⟨0, false, false, 0, Arr.rep 96 0⟩ : PS).found = true → (0 : Int) < (⟨0, false, false, 0, Arr.rep 96 0⟩ : PS).most := fun e => by cases e
  exact (pinS_least t.length 0 (Arr.rep 96 0) 0 ⟨0, false, false, 0, Arr.rep 96 0⟩ (Nat.zero_add _) rfl h0 h).2 D c hw'

end Go.Proofs.YtojndiidhgdjcaaGreatDoor
