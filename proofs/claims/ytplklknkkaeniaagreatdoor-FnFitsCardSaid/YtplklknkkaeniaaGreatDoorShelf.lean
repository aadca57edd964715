/- The library's functions on strings, in the engine's words: out of the kit's contracts. -/
import Derived.Test.YtplklknkkaeniaaGreatDoorEng
import Derived.Test.YtplklknkkaeniaaGreatDoorStr
import Derived.Shelf.Strconv.Itoa4
import Derived.Shelf.Strconv.ParseIntPublic10
import Derived.Shelf.Strings.Split
import Derived.Shelf.Strings.Cut
import Derived.Shelf.Strings.OnBuilder
import Derived.Shelf.Lay
import Derived.Lib.AtoiErrMem
namespace Go.Proofs.YtplklknkkaeniaaGreatDoor.Eng
open Go Go.Shelf Go.RowKit Go.Lib Go.Sort Go.Proofs
set_option linter.unusedSimpArgs false
set_option linter.unusedVariables false
set_option linter.unusedSectionVars false
variable [dsW : DrwS] {P : Program} {ρ : Ren}
/-- the draws are not counted -/
structure Gllo (w : World) : Prop where
  lo : ¬ dsW.S
theorem Gllo.keep {w0 w : World} {L : List Blk} (g : Gllo w0) (_ : Mem w0 [] L w) : Gllo w := ⟨g.lo⟩

theorem mem_below {w w' : World} (lo : ¬ dsW.S) (h : Go.RowKit.Below w.heap.size w w') : Mem w [] [] w' :=
  ⟨h.os, h.tape, h.output, Drw.any lo _ _, h.size, fun b hb _ => h.block b hb, by simp, by simp, by simp⟩
theorem mem_grown (w : World) (k : Nat) (os : Array Obj) : Mem w [] [] (grow (w.drewN k) os) :=
  ⟨rfl, rfl, rfl, Drw.of_le (by simp [grow, World.drewN]), by simp [grow, World.drewN], fun b hb _ => by simp [grow, World.drewN, Array.getElem?_append, hb], by simp, by simp, by simp⟩
theorem mem_drawn (w : World) (k : Nat) : Mem w [] [] (w.drewN k) :=
  ⟨rfl, rfl, rfl, Drw.of_le (by simp [World.drewN]), Nat.le_refl _, fun b hb _ => rfl, by simp, by simp, by simp⟩
/-- a new block beside -/
theorem mem_alloc (w : World) (T : TypeId) (cs : List Value) : Mem w [] [⟨some w.heap.size, T, cs⟩] (w.alloc (.cells cs.toArray T)) := by
  refine ⟨rfl, rfl, rfl, Drw.of_le (Nat.le_refl _), by show _ ≤ (w.heap.push _).size; simp, fun b hb _ => ?_, ?_, by simp, ?_⟩
  · exact Go.RowKit.Below.heap_alloc w _ b hb
  · intro x hx b hb
    simp only [List.mem_singleton] at hx
    subst hx
    cases hb
    show (w.heap.push _)[w.heap.size]? = _
    simp
  · intro x hx b hb
    simp only [List.mem_singleton] at hx
    subst hx
    cases hb
    exact .inr (Nat.le_refl _)

/-! ### strconv.FormatInt -/
def fmtF (n b : Int) : Option ByteArray := if b = 10 ∧ -9223372036854775808 ≤ n ∧ n ≤ 9223372036854775807 then some ⟨(Lib.itoa n).toArray⟩ else none
theorem fmt_calls (L : LaysM.n173 P ρ) (n b : Int) (w : World) (r : ByteArray) (gl : Lib.TabIs P w "internal/strconv.uint64pow10" .u64 Lib.pow10Tab) (h : fmtF n b = some r) :
    Calls P (ρ.f 173) #[.int .i64 n, .int .i64 b] w fun e w' => ∃ v, e = .returned v ∧ (v = .string r ∧ Mem w [] [] w') := by
  unfold fmtF at h
  split at h
  · rename_i hc
    obtain ⟨rfl, h0, h1⟩ := hc
    cases h
    refine (Any.strconv_FormatInt_10 L n h0 h1 w gl).mono ?_
    rintro e w' ⟨rfl, k, os, rfl⟩
    exact ⟨_, rfl, rfl, mem_grown w k os⟩
  · cases h

/-! ### strings.Split -/
def encS (x : ByteArray) : List Value := [.string x]
def splitF (s sep : ByteArray) : Option (List ByteArray) := if s.size < 4294967281 ∧ 1 ≤ sep.size then some (Lib.splitB sep 0 (Lib.countB s sep) s) else none
theorem split_calls (L : Lays.n146 P ρ) (hi9 : (P.info? (ρ.t 9)).map (fun i => (i.zero, i.size, i.bytes)) = some (some (.string ByteArray.empty), 1, 16)) (s sep : ByteArray) (w : World) (r : List ByteArray)
    (gl : ∃ m, w.cell? ⟨ρ.g 1, 0, none⟩ = some (.int .i64 m)) (h : splitF s sep = some r) :
    Calls P (ρ.f 146) #[.string s, .string sep] w fun e w' => ∃ v, e = .returned v ∧ (∃ (o0 : Option Nat) (c0 : Nat) (s0 : List Value) (n0 : Nat), r.length = n0 ∧ (o0 ≠ none → n0 ≤ c0 ∧ s0.length = (c0 - n0) * 1) ∧ (o0 = none → r = [] ∧ c0 = 0) ∧ v = .slice (o0.map fun b => ⟨b, 0, none⟩) n0 c0 ∧ Mem w [] [⟨o0, ρ.t 9, row encS r s0⟩] w') := by
  unfold splitF at h
  split at h
  · rename_i hc
    cases h
    obtain ⟨m, hm⟩ := gl
    refine (Any.strings_Split L hi9 s sep m w hc.1 hm hc.2).mono ?_
    rintro e w' ⟨rfl, rfl⟩
    have hlen := Lib.splitB_all sep hc.2 0 _ s rfl
    refine ⟨_, rfl, some w.heap.size, Lib.countB s sep + 1, [], Lib.countB s sep + 1, hlen, (fun _ => ⟨Nat.le_refl _, by simp⟩), (fun e => nomatch e), rfl, ?_⟩
    have e : ((Lib.splitB sep 0 (Lib.countB s sep) s).map Value.string) = row encS (Lib.splitB sep 0 (Lib.countB s sep) s) [] := by
      unfold row encS
      rw [List.append_nil]
      generalize Lib.splitB sep 0 (Lib.countB s sep) s = l
      induction l with
      | nil => rfl
      | cons x l ih => simp [ih]
    rw [e]
    exact mem_alloc w _ _
  · cases h

/-! ### strings.Cut -/
def cutF (s sep : ByteArray) : Option (ByteArray × ByteArray × Bool) := if s.size < 4294967281 then some (⟨(Lib.cut s.data.toList sep.data.toList).1.toArray⟩, ⟨(Lib.cut s.data.toList sep.data.toList).2.1.toArray⟩, (Lib.cut s.data.toList sep.data.toList).2.2) else none
theorem cut_calls (L : Lays.n145 P ρ) (s sep : ByteArray) (w : World) (r : ByteArray × ByteArray × Bool) (gl : ∃ m, w.cell? ⟨ρ.g 1, 0, none⟩ = some (.int .i64 m)) (h : cutF s sep = some r) :
    Calls P (ρ.f 145) #[.string s, .string sep] w fun e w' => ∃ v, e = .returned v ∧ (v = .tuple #[.string r.1, .string r.2.1, .bool r.2.2] ∧ Mem w [] [] w') := by
  unfold cutF at h
  split at h
  · rename_i hc
    cases h
    obtain ⟨m, hm⟩ := gl
    refine (Any.strings_Cut L s sep m w hc hm).mono ?_
    rintro e w' ⟨rfl, k, rfl⟩
    exact ⟨_, rfl, rfl, mem_drawn w k⟩
  · cases h

/-! ### strings.Join, of a row that came in -/
def joinF (xs : List ByteArray) (sep : ByteArray) : Option ByteArray := if xs.length ≤ 140737488355328 ∧ (Lib.join (xs.map (·.data.toList)) sep.data.toList).length ≤ 140737488355328 then some ⟨(Lib.join (xs.map (·.data.toList)) sep.data.toList).toArray⟩ else none
theorem join_calls (L : Lays.n156 P ρ) (X : Builder.Extra P ρ) (lo : ¬ dsW.S) (T : TypeId) (xs : List ByteArray) (sep : ByteArray) (w : World) (r : ByteArray) (o : Option Nat) (n c : Nat) (sp : List Value) (hn : xs.length = n) (hs : o ≠ none → n ≤ c ∧ sp.length = (c - n) * 1) (ho : o = none → xs = [] ∧ c = 0)
    (hm : Mem w (bs [o]) [⟨o, T, row encS xs sp⟩] w) (h : joinF xs sep = some r) :
    Calls P (ρ.f 156) #[.slice (o.map fun b => ⟨b, 0, none⟩) n c, .string sep] w fun e w' => ∃ v, e = .returned v ∧ (v = .string r ∧ Mem w (bs [o]) [⟨o, T, row encS xs sp⟩] w') := by
  subst hn
  unfold joinF at h
  split at h
  · rename_i hc
    cases h
    cases o with
    | none =>
      obtain ⟨rfl, rfl⟩ := ho rfl
      refine (Any.strings_Join_none L X none 0 sep w).mono ?_
      rintro e w' ⟨rfl, rfl⟩
      exact ⟨_, rfl, rfl, hm⟩
    | some b =>
      obtain ⟨h1, h2⟩ := hs (by simp)
      have hb : w.heap[b]? = some (.cells (row encS xs sp).toArray T (0, 0)) := hm.own ⟨some b, T, row encS xs sp⟩ (by simp) b rfl
      have hbl : b < w.heap.size := heap_lt hb
      have hcell : ∀ (j : Nat) x, xs[j]? = some x → w.cell? ⟨b, 0 + j, none⟩ = some (.string x) := by
        intro j x hx
        refine hm.cell (x := ⟨some b, T, row encS xs sp⟩) (by simp) rfl (0 + j) (.string x) ?_
        have hf := flatMap_get (enc := encS) (m := 1) (fun _ => rfl) xs j x hx 0 (.string x) rfl
        have hlt : j * 1 + 0 < (xs.flatMap encS).length := by
          rcases Nat.lt_or_ge (j * 1 + 0) (xs.flatMap encS).length with h' | h'
          · exact h'
          · rw [List.getElem?_eq_none h'] at hf; cases hf
        unfold row
        rw [List.getElem?_append_left (by omega), show 0 + j = j * 1 + 0 by omega]
        exact hf
      refine (Any.strings_Join L X b 0 c xs sep w hcell hbl hc.1 h1 hc.2).mono ?_
      rintro e w' ⟨rfl, hB⟩
      refine ⟨_, rfl, rfl, hB.os, hB.tape, hB.output, Drw.any lo _ _, hB.size, fun k hk _ => hB.block k hk, ?_, by simp, ?_⟩
      · intro x hx k hk
        simp only [List.mem_singleton] at hx
        subst hx
        cases hk
        rw [hB.block b hbl]; exact hb
      · intro x hx k hk
        simp only [List.mem_singleton] at hx
        subst hx
        cases hk
        exact .inl (by simp [bs])
  · cases h

/-! ### strconv.ParseInt -/
/-- what an error is: none, or some -/
def ErrIs (b : Bool) (ev : Value) : Prop := (b = false → ev = .nilIface) ∧ (b = true → ∃ te pe, ev = .iface te pe)
def parseF (s : ByteArray) (b z : Int) : Option (Int × Bool) := if b = 10 ∧ z = 64 ∧ s.size ≤ 281474976710656 then some (match Lib.parseIntB 64 s.data.toList with | .ok n => (n, false) | .range => (Lib.intSat 64 s.data.toList, true) | _ => (0, true)) else none
theorem parse_calls (L : LaysC.n174 P ρ) (lo : ¬ dsW.S) (s : ByteArray) (b z : Int) (w : World) (r : Int × Bool) (g1 : ∃ ev, w.cell? ⟨ρ.g 15, 0, none⟩ = some ev ∧ (ev = .nilIface ∨ ∃ te pe, ev = .iface te pe)) (g2 : ∃ ev, w.cell? ⟨ρ.g 16, 0, none⟩ = some ev ∧ (ev = .nilIface ∨ ∃ te pe, ev = .iface te pe)) (h : parseF s b z = some r) :
    Calls P (ρ.f 174) #[.string s, .int .i64 b, .int .i64 z] w fun e w' => ∃ v, e = .returned v ∧ (∃ ev, ErrIs r.2 ev ∧ v = .tuple #[.int .i64 r.1, ev] ∧ Mem w [] [] w') := by
  unfold parseF at h
  split at h
  · rename_i hc
    obtain ⟨rfl, rfl, hs⟩ := hc
    cases h
    cases hp : Lib.parseIntB 64 s.data.toList with
    | ok n =>
      refine (Any.strconv_ParseInt_10_at64_ok L s (by omega) n hp w).mono ?_
      rintro e w' ⟨rfl, hw⟩
      refine ⟨_, rfl, .nilIface, ⟨(fun _ => rfl), (fun e => nomatch e)⟩, rfl, ?_⟩
      rcases hw with rfl | ⟨t, rfl⟩
      · exact mem_below lo (Go.RowKit.Below.refl _ _)
      · exact mem_below lo (Lib.bytesWorld_below w _ t)
    | range =>
      obtain ⟨ev, hv, hev⟩ := g2
      refine (Any.strconv_ParseInt_10_at64_range L s hs hp ev w hv hev).mono ?_
      rintro e w' ⟨N, rfl, _, _, hB⟩
      exact ⟨_, rfl, _, ⟨(fun e => nomatch e), (fun _ => ⟨_, _, rfl⟩)⟩, rfl, mem_below lo hB⟩
    | _ =>
      obtain ⟨ev, hv, hev⟩ := g1
      refine (Any.strconv_ParseInt_10_at64_syntax L s hs hp ev w hv hev).mono ?_
      rintro e w' ⟨N, rfl, _, _, hB⟩
      exact ⟨_, rfl, _, ⟨(fun e => nomatch e), (fun _ => ⟨_, _, rfl⟩)⟩, rfl, mem_below lo hB⟩
  · cases h
/-- a look whether there is an error -/
def errQ (P : Program) (E : Env) : Op → Option (Value × Bool)
  | .binOp .eql T x (.const .nilIface) _ => match evo E [] x, P.underlying T with
    | some ev, some (.interface _) => some (ev, true)
    | _, _ => none
  | .binOp .neq T x (.const .nilIface) _ => match evo E [] x, P.underlying T with
    | some ev, some (.interface _) => some (ev, false)
    | _, _ => none
  | _ => none
omit dsW in
theorem run_errnil {t : TypeId} {ms : _} (hT : P.underlying t = some (.interface ms)) (te : TypeId) (pe : Value) (w : World) : (Op.equal t (.iface te pe) .nilIface).run P w = .ok false w := by
  unfold Op.equal Op.maxDepth
  rw [Op.equalIn]
  simp [underlying, program, Sem.run, hT]
omit dsW in
theorem run_nilnil {t : TypeId} {ms : _} (hT : P.underlying t = some (.interface ms)) (w : World) : (Op.equal t .nilIface .nilIface).run P w = .ok true w := by
  unfold Op.equal Op.maxDepth
  rw [Op.equalIn]
  simp [underlying, program, Sem.run, hT]
omit dsW in
theorem err_run {E : Env} {o : Oper} {ev : Value} {b q : Bool} {w : World} (hq : errQ P E o.op = some (ev, q)) (hb : ErrIs b ev) : (execOp (Eng.ev E []) o).run P w = .ok (.value (.bool (if q = true then !b else b))) w := by
  have key : ev = .nilIface ∧ b = false ∨ (∃ te pe, ev = .iface te pe) ∧ b = true := by
    cases b with
    | false => exact .inl ⟨hb.1 rfl, rfl⟩
    | true => exact .inr ⟨hb.2 rfl, rfl⟩
  unfold errQ at hq
  split at hq
  · rename_i T x yT ho
    split at hq
    · rename_i ev' ms hx hT
      cases hq
      have ex : Eng.ev E [] x = ev := by simp [Eng.ev, hx]
      have ey : Eng.ev E [] (.const .nilIface) = .nilIface := by simp [Eng.ev, evo]
      rcases key with ⟨rfl, rfl⟩ | ⟨⟨te, pe, rfl⟩, rfl⟩
      · simp [execOp, ho, ex, ey, eqGuard, binOp, run_nilnil hT]
      · simp [execOp, ho, ex, ey, eqGuard, binOp, run_errnil hT]
    · cases hq
  · rename_i T x yT ho
    split at hq
    · rename_i ev' ms hx hT
      cases hq
      have ex : Eng.ev E [] x = ev := by simp [Eng.ev, hx]
      have ey : Eng.ev E [] (.const .nilIface) = .nilIface := by simp [Eng.ev, evo]
      rcases key with ⟨rfl, rfl⟩ | ⟨⟨te, pe, rfl⟩, rfl⟩
      · simp [execOp, ho, ex, ey, eqGuard, binOp, run_nilnil hT]
      · simp [execOp, ho, ex, ey, eqGuard, binOp, run_errnil hT]
    · cases hq
  · cases hq
omit dsW in
theorem err_ne {E : Env} {o : Oper} {ev : Value} {b : Bool} {w : World} (hq : errQ P E o.op = some (ev, false)) (hb : ErrIs b ev) : (execOp (Eng.ev E []) o).run P w = .ok (.value (.bool b)) w := err_run hq hb
omit dsW in
theorem err_eq {E : Env} {o : Oper} {ev : Value} {b : Bool} {w : World} (hq : errQ P E o.op = some (ev, true)) (hb : ErrIs b ev) : (execOp (Eng.ev E []) o).run P w = .ok (.value (.bool (!b))) w := err_run hq hb
end Go.Proofs.YtplklknkkaeniaaGreatDoor.Eng
