import Derived.Test.YtojndiidhgdjcaaGreatDoorEng
/-! Arrays within a box: as many cells as there are, each of its own. -/
namespace Go.Proofs.YtojndiidhgdjcaaGreatDoor.Eng
open Go
set_option linter.unusedSectionVars false
set_option linter.unusedVariables false
section
variable [dsW : DrwS] [dfW : DfS] {P : Program} {n : Nat} {w0 : World} {W : List Nat} {Q : Exit → Act → World → Prop} {E : Env} {L : List Blk} {ops : Array Oper}
/-- an array's cells, then others -/
def seg (v : Int → Value) (N : Nat) (xs : List Int) (tl : List Value) : List Value := ((List.range N).map fun i => v (xs.getD i 0)) ++ tl
/-- some cells in the place of others -/
def cov (cs : List Value) (off N : Nat) (vs : List Value) : List Value := cs.take off ++ (vs ++ cs.drop (off + N))
def putS (L : List Blk) (hh off N : Nat) (vs : List Value) : List Blk := match L[hh]? with
  | some x => L.set hh ⟨x.b, x.T, cov x.cs off N vs⟩
  | none => L
/-- the cells that stand at a place of a known block -/
def segQ (L : List Blk) (hh off N : Nat) : Option (Option Nat × List Value) := (L[hh]?).map fun x => (x.b, (x.cs.drop off).take N)
omit dsW dfW in
theorem seg_map (v : Int → Value) {N : Nat} (xs : List Int) (hn : xs.length = N) (tl : List Value) : seg v N xs tl = xs.map v ++ tl := by
  subst hn
  unfold seg
  congr 1
  apply List.ext_getElem
  · simp
  · intro i h1 h2
    have h : i < xs.length := by simpa using h2
    simp [List.getD_eq_getElem?_getD, List.getElem?_eq_getElem h]
omit dsW dfW in
theorem row_map {v : Int → Value} {enc : Int → List Value} (hv : ∀ x, enc x = [v x]) (xs : List Int) : row enc xs [] = xs.map v := by
  unfold row
  rw [List.append_nil]
  induction xs with
  | nil => rfl
  | cons x xs ih => rw [List.flatMap_cons, hv, ih]; rfl
omit dsW dfW in
theorem seg_row {v : Int → Value} {enc : Int → List Value} (hv : ∀ x, enc x = [v x]) {N : Nat} (a : Arr N Int) : seg v N a.1 [] = row enc a.1 [] := by
  rw [seg_map v a.1 a.2, row_map hv, List.append_nil]
theorem segQ_some {hh off N : Nat} {b : Nat} {vs : List Value} (h : segQ L hh off N = some (some b, vs)) : ∃ T cs, L[hh]? = some ⟨some b, T, cs⟩ ∧ (cs.drop off).take N = vs := by
  unfold segQ at h
  cases hL : L[hh]? with
  | none => rw [hL] at h; cases h
  | some x =>
    rw [hL] at h
    obtain ⟨xb, xT, xc⟩ := x
    simp only [Option.map_some, Option.some.injEq, Prod.mk.injEq] at h
    obtain ⟨rfl, rfl⟩ := h
    exact ⟨xT, xc, rfl, rfl⟩
theorem Mem.segAt {w : World} (h : Mem w0 W L w) (hh b off : Nat) (v : Int → Value) {enc : Int → List Value} (hv : ∀ x, enc x = [v x]) {N : Nat} (a : Arr N Int) (hL : segQ L hh off N = some (some b, seg v N a.1 []) := by kernel_rfl) :
    At w b off (row enc a.1 []) := by
  obtain ⟨T, cs, h1, h2⟩ := segQ_some hL
  have := (h.all h1).sub off N
  rw [h2, seg_row hv, Nat.zero_add] at this
  exact this
theorem Mem.segRow {w : World} (h : Mem w0 W L w) (hh b off : Nat) (v : Int → Value) {enc : Int → List Value} (hv : ∀ x, enc x = [v x]) {N : Nat} (a : Arr N Int) (hL : segQ L hh off N = some (some b, seg v N a.1 []) := by kernel_rfl) :
    Rw w (some ⟨b, off, none⟩) 1 enc a.1 := by
  have hat := h.segAt hh b off v hv a hL
  obtain ⟨T, cs, h1, h2⟩ := segQ_some hL
  refine ⟨fun _ => ⟨rfl, h.lt (List.mem_of_getElem? h1) rfl⟩, fun j x hj i y hi => ?_⟩
  have hm : ∀ x, (enc x).length = 1 := fun x => by rw [hv]; rfl
  have hf := flatMap_get hm a.1 j x hj i y hi
  have : (row enc a.1 [])[j * 1 + i]? = some y := by unfold row; rw [List.append_nil]; exact hf
  have := hat _ _ this
  simpa [aB, aO, Nat.add_assoc] using this
theorem Mem.segApart {w : World} (h : Mem w0 W L w) (hh b off : Nat) {xs : List Int} (l : List Nat) {V : List Nat} (hx : (L[hh]?).map Blk.b = some (some b) := by kernel_rfl) (hl : l.any (Nat.beq hh) = false := by kernel_rfl)
    (hV : bs ((at_ L l).map Blk.b) = V := by kernel_rfl) : xs ≠ [] → aB (some (⟨b, off, none⟩ : Addr)) ∉ V := h.oa hh (some b) (fun e => nomatch e) l hx hl hV
/-- an array within a box is loaded -/
theorem p_ldS {K : Act → World → Prop} {N : Nat} {k : Nat} (m hh b off : Nat) (v : Int → Value) {enc : Int → List Value} (hv : ∀ x, enc x = [v x]) (a : Arr N Int) (hk : JK n w0 W K (putE E (opAt ops k) (.agg (row enc a.1 []).toArray)) L)
    (hp : pl n ops k m E = pr n ops k m E := by kernel_rfl) (hq : ldQ P E (opAt ops k).op = some (b, off, true, N) := by kernel_rfl) (hL : segQ L hh off N = some (some b, seg v N a.1 []) := by kernel_rfl) : JP P n w0 W ops k K E L Q :=
  p_v m hp _ (fun w hw => ld_run hq (((row_len (m := 1) (fun x => by rw [hv]; rfl) a)).trans (Nat.mul_one N)) (.inl rfl) (hw.segAt hh b off v hv a hL)) hk
omit dsW dfW in
theorem spl_cov : ∀ (vs pre mid post : List Value), mid.length = vs.length → spl (pre ++ (mid ++ post)) pre.length vs = pre ++ (vs ++ post) := by
  intro vs
  induction vs with
  | nil => intro pre mid post h; rw [List.length_eq_zero_iff.1 h]; rfl
  | cons v vs ih =>
    intro pre mid post h
    cases mid with
    | nil => cases h
    | cons c mid =>
      rw [spl]
      have : (pre ++ (c :: mid ++ post)).set pre.length v = (pre ++ [v]) ++ (mid ++ post) := by
        rw [List.set_append_right _ _ (Nat.le_refl _)]; simp
      rw [this]
      have h2 := ih (pre ++ [v]) mid post (by simpa using h)
      rw [List.length_append] at h2
      simpa using h2
omit dsW dfW in
theorem cov_spl {cs vs : List Value} {off N : Nat} (h : vs.length = N) (hc : off + N ≤ cs.length) : spl cs off vs = cov cs off N vs := by
  have e1 : (cs.take off).length = off := by rw [List.length_take]; omega
  have e : cs = cs.take off ++ ((cs.drop off).take N ++ cs.drop (off + N)) := by
    rw [← List.drop_drop, List.take_append_drop, List.take_append_drop]
  have := spl_cov vs (cs.take off) ((cs.drop off).take N) (cs.drop (off + N)) (by rw [List.length_take, List.length_drop]; omega)
  rw [e1, ← e] at this
  exact this
omit dsW dfW in
theorem segQ_len {off N : Nat} {v : Int → Value} {a : Arr N Int} {cs : List Value} (h2 : (cs.drop off).take N = seg v N a.1 []) (hN : 0 < N) : off + N ≤ cs.length := by
  have := congrArg List.length h2
  rw [seg_map v a.1 a.2, List.append_nil, List.length_map, a.2, List.length_take, List.length_drop] at this
  omega
/-- a whole array is stored into a box -/
theorem p_stS {K : Act → World → Prop} {N : Nat} {k : Nat} (m hh b off : Nat) (v : Int → Value) {enc : Int → List Value} (hv : ∀ x, enc x = [v x]) (hc : ∀ x, (enc x).all isCell = true) (a0 a : Arr N Int)
    (hk : JK n w0 W K (putE E (opAt ops k) undef) (putS L hh off N (seg v N a.1 []))) (hp : pl n ops k m E = pr n ops k m E := by kernel_rfl) (hq : stQA P E (opAt ops k).op = some (b, off, row enc a.1 [], N) := by kernel_rfl)
    (hL : segQ L hh off N = some (some b, seg v N a0.1 []) := by kernel_rfl) (hN : Nat.blt 0 N = true := by kernel_rfl) : JP P n w0 W ops k K E L Q := by
  have hN := Nat.lt_of_lt_of_le Nat.zero_lt_one (Nat.le_of_ble_eq_true hN)
  obtain ⟨T, cs, h1, h2⟩ := segQ_some hL
  have hlen := segQ_len h2 hN
  have h := pre_ok hp
  intro ac w hok
  have hw := gok_wanted hok h.2.1
  unfold wpOp
  simp only [h.1, hw, if_true]
  refine .inl ?_
  unfold Oper.wp
  rw [exec_known hok (G := []) (by simp) h.2.2.2.1 h.2.2.2.2]
  have hl1 : (row enc a.1 []).length = N := by rw [row_map hv, List.length_map, a.2]
  unfold stQA at hq
  split at hq
  · rename_i T' x y ho
    split at hq
    · rename_i b' off' v' t hx hy ht
      simp only [Option.some.injEq, Prod.mk.injEq] at hq
      obtain ⟨rfl, rfl, hv', hts⟩ := hq
      have hsz : v'.cells.size = t.size := by rw [hts, ← hl1, ← hv']; simp
      obtain ⟨w', hr, hm'⟩ := storeCells_run (P := P) (row enc a.1 []) off' 0 cs L w hok.mem h1 (by omega) (row_cell hc a.1)
      have ex : ev E [] x = .pointer (some ⟨b', off', none⟩) := by simp [ev, hx]
      have ey : ev E [] y = v' := by simp [ev, hy]
      have : (execOp (ev E []) (opAt ops k)).run P w = .ok .skip w' := by
        simp only [execOp, ho, Instr.storeAt, ex, ey, Instr.sureAddr, Sem.run_bind, Sem.run_pure, Result.andThen_ok, storeVar, run_sizeOf ht, hsz, ne_eq, not_true_eq_false, if_false]
        rw [hv']
        simp only [hr, Result.andThen_ok]
      rw [this]
      simp only [Oper.upon]
      rw [Nat.add_zero, cov_spl hl1 hlen, ← seg_row hv a] at hm'
      unfold putS at hk
      rw [h1] at hk
      exact hk _ _ (putE_ok (hok.mem' hm') h.2.2.1 undef)
    · simp at hq
  · simp at hq
/-- an array that is known is told cell by cell -/
theorem jo_segE {k : Nat} (t N : Nat) (v : Int → Value) {enc : Int → List Value} (hv : ∀ x, enc x = [v x]) (a : Arr N Int) (h : JO P n w0 W ops k ((t, [], .agg (seg v N a.1 []).toArray) :: E) L Q)
    (hl : evo E [] (.tmp t) = some (.agg (row enc a.1 []).toArray) := by kernel_rfl) : JO P n w0 W ops k E L Q := by
  intro ac w hok
  refine h ac w ⟨hok.sz, hok.df, ?_, hok.mem⟩
  intro t' g u hlk hg
  unfold lk at hlk
  cases hb : Nat.beq t t' with
  | true =>
    rw [hb] at hlk
    simp only [cond_true, Option.some.injEq, Prod.mk.injEq] at hlk
    obtain ⟨rfl, rfl⟩ := hlk
    obtain rfl := Nat.eq_of_beq_eq_true hb
    have := evo_sound hok (G := []) (by simp) hl
    rw [seg_row hv]
    exact this
  | false =>
    rw [hb] at hlk
    exact hok.env t' g u hlk hg
/-- an element of an array within a box is stored -/
theorem p_stE {K : Act → World → Prop} {N : Nat} {k : Nat} (m hh b off : Nat) (v : Int → Value) {enc : Int → List Value} (hv : ∀ x, enc x = [v x]) (a : Arr N Int) (j y : Int) {x : Int} (hx : ix a.1 j = some x)
    (hk : JK n w0 W K (putE E (opAt ops k) undef) (putS L hh off N (seg v N (a.set j y).1 []))) (hp : pl n ops k m E = pr n ops k m E := by kernel_rfl) (hq : stQ P E (opAt ops k).op = some (b, off + j.toNat * 1, [v y]) := by kernel_rfl)
    (hL : segQ L hh off N = some (some b, seg v N a.1 []) := by kernel_rfl) (hN : Nat.blt 0 N = true := by kernel_rfl) : JP P n w0 W ops k K E L Q := by
  have hN := Nat.lt_of_lt_of_le Nat.zero_lt_one (Nat.le_of_ble_eq_true hN)
  obtain ⟨T, cs, h1, h2⟩ := segQ_some hL
  have hlen := segQ_len h2 hN
  obtain ⟨x1, x2, x3⟩ := ix_some hx
  have hj : j.toNat < N := by have := a.2; omega
  refine p_st m hh b _ _ T cs (cov cs off N (seg v N (a.set j y).1 [])) hp hq h1 (by simp only [List.length_cons, List.length_nil]; omega) ?_ ?_
  · rw [spl, spl, Nat.mul_one]
    unfold cov
    rw [seg_map v (a.set j y).1 (a.set j y).2, List.append_nil]
    have e : cs = cs.take off ++ (a.1.map v ++ cs.drop (off + N)) := by
      have : a.1.map v = (cs.drop off).take N := by rw [h2, seg_map v a.1 a.2, List.append_nil]
      rw [this, ← List.drop_drop, List.take_append_drop, List.take_append_drop]
    have el : (cs.take off).length = off := by rw [List.length_take]; omega
    conv => lhs; rw [e]
    rw [List.set_append_right _ _ (by omega), el, show off + j.toNat - off = j.toNat by omega, List.set_append_left _ _ (by rw [List.length_map, a.2]; exact hj), List.map_set.symm]
    rfl
  · unfold putS at hk
    rw [h1] at hk
    exact hk
end
end Go.Proofs.YtojndiidhgdjcaaGreatDoor.Eng
