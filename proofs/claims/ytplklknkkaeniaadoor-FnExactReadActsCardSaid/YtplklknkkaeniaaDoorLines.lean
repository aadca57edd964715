/- strings.Lines: the lines of a text, and the round that its iterator begins. -/
import Derived.Test.YtplklknkkaeniaaDoorEng
import Derived.Test.YtplklknkkaeniaaDoorStr
import Derived.Test.YtplklknkkaeniaaDoorRange
import Derived.Shelf.Small.Strs
import Derived.Lib.IndexLaws
namespace Go.Proofs.YtplklknkkaeniaaDoor.Eng
open Go Go.RowKit
set_option linter.unusedSimpArgs false
set_option linter.unusedVariables false
set_option linter.unusedSectionVars false
variable [dsW : DrwS]
/-! ### the lines of a text -/
def lnIdx (s : ByteArray) : Int := Lib.indexByte s.data.toList (10 : Int).toNat.toUInt8
def lnHd (s : ByteArray) : ByteArray := if lnIdx s ≥ 0 then s.extract (0 : Int).toNat (w64 (lnIdx s + 1)).toNat else s
def lnTl (s : ByteArray) : ByteArray := if lnIdx s ≥ 0 then s.extract (w64 (lnIdx s + 1)).toNat (s.size : Int).toNat else ByteArray.mk #[]
def linB : Nat → ByteArray → List ByteArray
  | 0, _ => []
  | n + 1, s => if (s.size : Int) > 0 then lnHd s :: linB n (lnTl s) else []
def linesL (s : ByteArray) : List ByteArray := linB s.size s
def lnRest (s : ByteArray) : Nat → ByteArray
  | 0 => s
  | k + 1 => lnTl (lnRest s k)
omit dsW in
theorem lnRest_tl (s : ByteArray) (k : Nat) : lnRest (lnTl s) k = lnRest s (k + 1) := by
  induction k with
  | zero => rfl
  | succ k ih => show lnTl (lnRest (lnTl s) k) = lnTl (lnRest s (k + 1)); rw [ih]
omit dsW in
theorem lnIdx_lt (s : ByteArray) : -1 ≤ lnIdx s ∧ lnIdx s < s.size := by
  refine ⟨Lib.indexByte_ge _ _, ?_⟩
  unfold lnIdx
  have hge := Lib.indexByte_ge s.data.toList (10 : Int).toNat.toUInt8
  by_cases h : Lib.indexByte s.data.toList (10 : Int).toNat.toUInt8 = -1
  · rw [h]; omega
  · obtain ⟨o, ho⟩ : ∃ o : Nat, Lib.indexByte s.data.toList (10 : Int).toNat.toUInt8 = o := ⟨(Lib.indexByte s.data.toList (10 : Int).toNat.toUInt8).toNat, by omega⟩
    have h2 := (Lib.indexByte_some ho).1
    have h3 : o < s.data.toList.length := by
      rcases Nat.lt_or_ge o s.data.toList.length with h' | h'
      · exact h'
      · rw [List.getElem?_eq_none h'] at h2; cases h2
    rw [ho]
    have : s.data.toList.length = s.size := Array.length_toList
    omega
omit dsW in
theorem lnTl_lt (s : ByteArray) (hs : s.size ≤ 9223372036854775806) (h : (s.size : Int) > 0) : (lnTl s).size < s.size := by
  have hi := lnIdx_lt s
  unfold lnTl
  split
  · have hw : w64 (lnIdx s + 1) = lnIdx s + 1 := Go.IntWalk.i64_in _ ⟨by omega, by omega⟩
    rw [hw, ByteArray.size_extract]
    omega
  · show 0 < s.size
    omega
omit dsW in
theorem lin_len (n : Nat) : ∀ (s : ByteArray), s.size ≤ n → s.size ≤ 9223372036854775806 → ∀ k,
    (k < (linB n s).length → ((lnRest s k).size : Int) > 0 ∧ (linB n s)[k]? = some (lnHd (lnRest s k))) ∧ (k = (linB n s).length → (lnRest s k).size = 0) ∧ (k ≤ (linB n s).length → (lnRest s k).size ≤ s.size) := by
  induction n with
  | zero =>
    intro s hs hb k
    refine ⟨fun h => absurd h (by simp [linB]), fun h => ?_, fun h => ?_⟩
    · simp only [linB, List.length_nil] at h; subst h; simp only [lnRest]; omega
    · simp only [linB, List.length_nil, Nat.le_zero] at h; subst h; simp only [lnRest]; omega
  | succ n ih =>
    intro s hs hb k
    by_cases hp : (s.size : Int) > 0
    · have hlt := lnTl_lt s hb hp
      simp only [linB, if_pos hp, List.length_cons]
      cases k with
      | zero => exact ⟨fun _ => ⟨hp, rfl⟩, fun h => absurd h (by omega), fun _ => Nat.le_refl _⟩
      | succ k =>
        obtain ⟨h1, h2, h3⟩ := ih (lnTl s) (by omega) (by omega) k
        rw [lnRest_tl] at h1 h2 h3
        refine ⟨fun h => ?_, fun h => h2 (by omega), fun h => Nat.le_trans (h3 (by omega)) (by omega)⟩
        simpa using h1 (by omega)
    · simp only [linB, if_neg hp, List.length_nil]
      refine ⟨fun h => absurd h (by omega), fun h => ?_, fun h => ?_⟩
      · subst h; simp only [lnRest]; omega
      · obtain rfl : k = 0 := by omega
        exact Nat.le_refl _
/-- how many lines: as a condition -/
def linesF (s : ByteArray) : Option (List ByteArray) := if s.size ≤ 4294967296 then some (linesL s) else none
/-! ### the round that an iterator begins -/
section
variable {P : Program} {n : Nat} {w0 : World} {W : List Nat} {Q : Exit → Act → World → Prop} {E : Env} {L : List Blk} {ops : Array Oper}
theorem oki_v {k m : Nat} {rest : List Nat} {o : Oper} {v : Value} {a : Act} {w : World} (ho : ops[k]? = some o) (hg : o.guard = none) (hk : known E [] o.op = true) (hs : notSel o.op = true) (hc : calm o.op = true)
    (hx : lRun P [] (execOp (ev E []) o) [] = some (.value v, [])) (hd : dOk n E o = true) (hok : Ok n w0 W E L a w)
    (h : ∀ a', Ok n w0 W (putE E o v) L a' w → wpOpsIn Fence.wide m P ops Q rest a' w) : wpOpsIn Fence.wide m P ops Q (k :: rest) a w := by
  rw [wpOpsIn_cons]
  unfold wpOpIn
  simp only [ho]
  rw [if_pos (by simp [Region.wanted, hg])]
  refine ⟨fun _ _ => trivial, ?_⟩
  show Oper.uponIn _ _ _ _ _ _ _ ((Oper.semAt none a.eval o).run P w)
  rw [Oper.semAt_none, exec_known hok (G := []) (by simp) hk hs, lRun_sound (L := []) (by simp) _ _ _ hx rfl]
  exact h _ (putE_ok hok hd v)
/-- an operation that yields a value, and reads nothing -/
def okV (P : Program) (n : Nat) (E : Env) (o : Oper) : Option Value :=
  bif o.guard.isNone && (known E [] o.op && (notSel o.op && (calm o.op && dOk n E o))) then match lRun P [] (execOp (ev E []) o) [] with
    | some (.value v, []) => some v
    | _ => none
  else none
def okY (n : Nat) (E : Env) (o : Oper) : Bool := o.guard.isNone && (known E [] o.op && (notSel o.op && dOk n E o))
theorem okV_spec {o : Oper} {v : Value} (h : okV P n E o = some v) : o.guard = none ∧ known E [] o.op = true ∧ notSel o.op = true ∧ calm o.op = true ∧ dOk n E o = true ∧ lRun P [] (execOp (ev E []) o) [] = some (.value v, []) := by
  unfold okV at h
  cases hb : (o.guard.isNone && (known E [] o.op && (notSel o.op && (calm o.op && dOk n E o)))) with
  | false => rw [hb] at h; cases h
  | true =>
    rw [hb] at h
    simp only [cond_true] at h
    simp only [Bool.and_eq_true, Option.isNone_iff_eq_none] at hb
    refine ⟨hb.1, hb.2.1, hb.2.2.1, hb.2.2.2.1, hb.2.2.2.2, ?_⟩
    split at h
    · rename_i hx; cases h; exact hx
    · cases h
theorem jc_yield {id l m : Nat} {o0 o1 o2 o3 : Oper} {v0 v1 : Value} {args : Array Value} {Ja Jb : World → Prop} {Wa : List Nat} {La : List Blk}
    (h0 : okV P n E o0 = some v0) (h1 : okV P n (putE E o0 v0) o1 = some v1) (h2 : okY n (putE (putE E o0 v0) o1 v1) o2 = true)
    (hx : execOp (ev (putE (putE E o0 v0) o1 v1) []) o2 = Instr.yield l args)
    (h3 : okV P n (putE (putE (putE E o0 v0) o1 v1) o2 (.bool true)) o3 = some (.bool false)) (h3' : okV P n (putE (putE (putE E o0 v0) o1 v1) o2 (.bool false)) o3 = some (.bool true))
    (hy : ∀ w, Mem w0 W L w → YieldAt Fence.wide (m - 1) P l args w fun e w' => (e = .returned (.bool true) ∧ Ja w') ∨ (e = .returned (.bool false) ∧ Jb w'))
    (hm : ∀ w', Ja w' → Mem w' Wa La w')
    (kT : ∀ w', Ja w' → ∀ a', Ok n w' Wa (putE (putE (putE (putE E o0 v0) o1 v1) o2 (.bool true)) o3 (.bool false)) La a' w' → Q .normal a' w')
    (kF : ∀ w', Jb w' → ∀ a', Ok n w' [] (putE (putE (putE (putE E o0 v0) o1 v1) o2 (.bool false)) o3 (.bool true)) [] a' w' → Q .normal a' w') :
    JC P n w0 W (.region id #[o0, o1, o2, o3] false) E L Q := by
  intro a w hok
  refine (wpIn_wide (n := m)).1 (wpIn_region ?_)
  show wpOpsIn Fence.wide m P #[o0, o1, o2, o3] Q [0, 1, 2, 3] a w
  obtain ⟨g0, k0, s0, c0, d0, x0⟩ := okV_spec h0
  refine oki_v (o := o0) rfl g0 k0 s0 c0 x0 d0 hok fun a1 hok1 => ?_
  obtain ⟨g1, k1, s1, c1, d1, x1⟩ := okV_spec h1
  refine oki_v (o := o1) rfl g1 k1 s1 c1 x1 d1 hok1 fun a2 hok2 => ?_
  simp only [okY, Bool.and_eq_true, Option.isNone_iff_eq_none] at h2
  obtain ⟨g2, k2, s2, d2⟩ := h2
  rw [wpOpsIn_cons]
  unfold wpOpIn
  show if Region.wanted o2 (yielded #[o0, o1, o2, o3] a2.tmps) then _ else _
  rw [if_pos (by simp [Region.wanted, g2])]
  refine ⟨fun _ _ => trivial, ?_⟩
  obtain ⟨fn, tmps, assign, body, e1, e2⟩ := hy w hok.mem
  show Oper.uponIn _ _ _ _ _ _ _ ((Oper.semAt none a2.eval o2).run P w)
  rw [Oper.semAt_none, exec_known hok2 (G := []) (by simp) k2 s2, hx, e1, Oper.uponIn_round]
  refine ⟨(fun h => nomatch h), e2.mono ?_⟩
  have hp := putE_ok hok2 d2
  rintro e w' (⟨rfl, hj⟩ | ⟨rfl, hj⟩)
  · have hM := hm w' hj
    have hok3 : Ok n w' Wa _ La _ w' := ⟨(hp (.bool true)).sz, (hp (.bool true)).df, (hp (.bool true)).env, hM⟩
    obtain ⟨g3, k3, s3, c3, d3, x3⟩ := okV_spec h3
    refine oki_v (o := o3) rfl g3 k3 s3 c3 x3 d3 hok3 fun a4 hok4 => ?_
    exact kT w' hj a4 hok4
  · have hok3 : Ok n w' [] _ [] _ w' := ⟨(hp (.bool false)).sz, (hp (.bool false)).df, (hp (.bool false)).env, Mem.start w'⟩
    obtain ⟨g3, k3, s3, c3, d3, x3⟩ := okV_spec h3'
    refine oki_v (o := o3) rfl g3 k3 s3 c3 x3 d3 hok3 fun a4 hok4 => ?_
    exact kF w' hj a4 hok4
end
/-! ### at a world that is known -/
section
variable {P : Program} {n : Nat} {w0 : World} {W : List Nat} {Q : Exit → Act → World → Prop} {E : Env} {L : List Blk} {ops : Array Oper}
theorem wpOps_f : ∀ (l : List (Nat × Nat)) {k : Nat} {E : Env} (a : Act) (w : World), Ok n w0 W E L a w → cl (chunk P n ops L (steps k l) E) = cr (chunk P n ops L (steps k l) E) →
    (∀ a', Ok n w0 W (gE (chunk P n ops L (steps k l) E)) L a' w → wpOps P ops Q ((List.range ops.size).drop (k + l.length)) a' w) → wpOps P ops Q ((List.range ops.size).drop k) a w := by
  intro l
  induction l with
  | nil => intro k E a w hok _ h; exact h a hok
  | cons x l ih =>
    intro k E a w hok hc h
    obtain ⟨r, h1, hn, hb, hc', hg⟩ := cl_cons hc
    rw [steps, hg] at h
    have hlt := oneF_some h1
    rw [range_drop hlt, wpOps_cons]
    refine oneF_sound hok h1 hn hb fun a' hok' => ?_
    refine ih a' w hok' hc' fun a2 hok2 => ?_
    have := h a2 hok2
    simp only [List.length_cons] at this
    rwa [show k + (l.length + 1) = k + 1 + l.length from by omega] at this
theorem wpOps_end {k : Nat} {a : Act} {w : World} (hk : ops.size = k) (h : Q .normal a w) : wpOps P ops Q ((List.range ops.size).drop k) a w := by
  subst hk
  rw [List.drop_of_length_le (by simp)]
  exact h
theorem wp_region_f {id : Nat} (l : List (Nat × Nat)) {a : Act} {w : World} (hok : Ok n w0 W E L a w) (hc : cl (chunk P n ops L (steps 0 l) E) = cr (chunk P n ops L (steps 0 l) E)) (hs : ops.size = 0 + l.length)
    (h : ∀ a', Ok n w0 W (gE (chunk P n ops L (steps 0 l) E)) L a' w → Q .normal a' w) : (Code.region id ops false).wp P Q a w :=
  wp_region (wpOps_f l (k := 0) a w hok hc (fun a' hok' => wpOps_end hs (h a' hok')))
theorem wp_cond_at {c : Operand} {x y : Code} {a : Act} {w : World} (b : Bool) (hok : Ok n w0 W E L a w) (hb : evo E [] c = some (.bool b)) (ht : b = true → x.wp P Q a w) (hf : b = false → y.wp P Q a w) : (Code.cond c x y).wp P Q a w :=
  wp_cond_split (evo_sound hok (G := []) (by simp) hb) ht hf
theorem jc_at {c : Code} {a : Act} {w : World} (h : JC P n w0 W c E L Q) (hok : Ok n w0 W E L a w) : c.wp P Q a w := h a w hok
theorem ret_at {fn : Func} {R : Value → World → Prop} {rs : List ResultVar} {a : Act} {w : World} (hs : List Nat) (v : Value) (bs : List (Nat × Nat)) (hrs : fn.results.toList = rs)
    (hr : (resF P L E rs hs).map (fun r => (one r.1, r.2)) = some (v, bs)) (hb : bs.map (·.1) = bs.map (·.2)) (hok : Ok n w0 W E L a w) (hR : R v w) : QB P fn R .ret a w := by
  simp only [Option.map_eq_some_iff, Prod.mk.injEq] at hr
  obtain ⟨r, h1, rfl, rfl⟩ := hr
  subst hrs
  exact ⟨hok.df, _, results_eq (resF_sound hok _ hs r h1 hb), hR⟩
theorem enterAt {f : FuncId} {fn : Func} {c : Code} {args : List Value} {w : World} {R : Value → World → Prop} (hf : P.funcs[f]? = some fn) (hb : fn.body = some c)
    (hn : fn.ntmps = n) (hle : Nat.ble args.length n = true) (hm : Mem w W L w) (h : ∀ a, @Ok _ dfNone n w W (argE 0 args) L a w → c.wp P (@QB dfNone P fn R) a w) :
    Calls P f args.toArray w fun e w' => ∃ v, e = .returned v ∧ R v w' := by
  refine calls_of_wp hf hb (wp_mono (h _ ⟨?_, rfl, ?_, hm⟩) ?_)
  · have := Nat.le_of_ble_eq_true hle
    simp [hn]; omega
  · intro t g v hl _
    obtain ⟨_, h2⟩ := lk_argE args 0 t g v hl
    simp only [Nat.sub_zero] at h2
    have hlt : t < args.length := by
      rcases Nat.lt_or_ge t args.length with h' | h'
      · exact h'
      · rw [List.getElem?_eq_none h'] at h2; simp at h2
    simp only [Array.getD_eq_getD_getElem?]
    rw [Array.getElem?_append_left (by simpa using hlt)]
    simp [h2]
  · intro e a' w' hq
    cases e with
    | normal => obtain ⟨hd, v, hr, hR⟩ := hq; exact ⟨hd, v, hr, v, rfl, hR⟩
    | ret => obtain ⟨hd, v, hr, hR⟩ := hq; exact ⟨hd, v, hr, v, rfl, hR⟩
    | _ => exact hq.elim
theorem index_calls {ρ : Go.Shelf.Ren} (L : Go.Proofs.Lays.n137 P ρ) (s : ByteArray) (w : World) : Calls P (ρ.f 137) #[.string s, .int .u8 10] w fun e w' => ∃ v, e = .returned v ∧ (v = .int .i64 (lnIdx s) ∧ Mem w [] [] w') := by
  refine (Go.Proofs.Any.strings_IndexByte L s 10 w).mono ?_
  rintro e w' ⟨rfl, rfl⟩
  exact ⟨_, rfl, rfl, Mem.start w'⟩
end
/-! ### the iterator's words -/
def encL (y : ByteArray) : Array Value := #[.string y]
def linesH (b0 : Nat) (T : TypeId) (s : ByteArray) (k : Nat) (W : World) : Prop := W.heap[b0]? = some (.cells #[.string (lnRest s k)] T (0, 0))
def linesSt (b0 : Nat) (T : TypeId) (s : ByteArray) (k : Nat) (W W' : World) : Prop := Mem W [b0] [⟨some b0, T, [.string (lnRest s (k + 1))]⟩] W'
def linesM (b0 : Nat) (W : World) : Nat := match W.cell? ⟨b0, 0, none⟩ with
  | some (.string s) => s.size
  | _ => 0
theorem lines_mem {b0 : Nat} {T : TypeId} {s : ByteArray} {k : Nat} {W : World} (h : linesH b0 T s k W) : Mem W [b0] [⟨some b0, T, [.string (lnRest s k)]⟩] W :=
  ⟨rfl, rfl, rfl, Drw.of_le (Nat.le_refl _), Nat.le_refl _, fun _ _ _ => rfl, fun x hx b hb => by simp only [List.mem_singleton] at hx; subst hx; cases hb; exact h, by simp, fun x hx b hb => by simp only [List.mem_singleton] at hx; subst hx; cases hb; exact .inl (by simp)⟩
theorem lines_M {b0 : Nat} {T : TypeId} {s : ByteArray} {k : Nat} {W : World} (h : linesH b0 T s k W) : linesM b0 W = (lnRest s k).size := by
  unfold linesM
  have e : W.cell? ⟨b0, 0, none⟩ = some (.string (lnRest s k)) := by
    unfold linesH at h
    simp [World.cell?, h]
  rw [e]
theorem lines_Hk {b0 : Nat} {T : TypeId} {s : ByteArray} {w1 : World} {W1 : List Nat} {L : List Blk} {w : World} {b : Nat} {o : Obj} {k : Nat} (hm : Mem w1 W1 L (w.putObj b o)) (hne : ∀ y ∈ L, y.b ≠ some b) (i : Nat)
    (hi : L[i]? = some ⟨some b0, T, [.string (lnRest s k)]⟩) : linesH b0 T s k w := by
  have := hm.own _ (List.mem_of_getElem? hi) b0 rfl
  rwa [World.putObj_heap_other (fun e => hne _ (List.mem_of_getElem? hi) (by rw [e]))] at this
theorem lines_Stk {b0 : Nat} {T : TypeId} {s : ByteArray} {w1 : World} {W1 : List Nat} {L L' : List Blk} {w w' : World} {b : Nat} {o o' : Obj} {k : Nat} (i : Nat)
    (hi : L[i]? = some ⟨some b0, T, [.string (lnRest s k)]⟩) (hL : L.set i ⟨some b0, T, [.string (lnRest s (k + 1))]⟩ = L')
    (hm : Mem w1 W1 L (w.putObj b o)) (ho : w.heap[b]? = some o') (hb : b < w1.heap.size) (hW : b ∉ W1) (hst : linesSt b0 T s k w w') : Mem w1 W1 L' (w'.putObj b o) ∧ w'.heap[b]? = some o' := by
  subst hL
  have hx := List.mem_of_getElem? hi
  have hnew := hm.new _ hx b0 rfl
  have hne : b0 ≠ b := by
    rintro rfl
    rcases hnew with h | h
    · exact hW h
    · omega
  have hlb := heap_lt ho
  have hb0 : b0 < w.heap.size := by
    have := hm.lt hx rfl
    simpa using this
  have hob : w'.heap[b]? = some o' := (hst.old b hlb (by simp; omega)).trans ho
  refine ⟨?_, hob⟩
  have hs1 := hm.size
  have hs2 := hst.size
  simp only [World.putObj_size] at hs1
  have hdrw : Drw (w.putObj b o).drawn w'.drawn := hst.drw
  refine ⟨hst.os.trans hm.os, hst.tape.trans hm.tape, hst.output.trans hm.output, hm.drw.trans hdrw, by simp only [World.putObj_size]; omega, ?_, ?_, ?_, ?_⟩
  · intro c hc hcW
    have hcb : c ≠ b0 := by
      rintro rfl
      rcases hnew with h | h
      · exact hcW h
      · omega
    by_cases e : c = b
    · subst e
      rw [World.putObj_heap_same (heap_lt hob)]
      have := hm.old c hc hcW
      rwa [World.putObj_heap_same hlb] at this
    · rw [World.putObj_heap_other e, hst.old c (by omega) (by simpa using hcb)]
      have := hm.old c hc hcW
      rwa [World.putObj_heap_other e] at this
  · intro x hxs c hc
    rcases mem_set_of hi hm.dis hxs with rfl | ⟨hxL, hd⟩
    · cases hc
      rw [World.putObj_heap_other hne]
      exact hst.own _ (by simp) b0 rfl
    · have hcb := hd c b0 hc rfl
      have hcx := hm.own x hxL c hc
      have hclt : c < w.heap.size := by have := hm.lt hxL hc; simpa using this
      by_cases e : c = b
      · subst e
        rcases hm.new x hxL c hc with h | h
        · exact absurd h hW
        · omega
      · rw [World.putObj_heap_other e, hst.old c hclt (by simpa using hcb)]
        rwa [World.putObj_heap_other e] at hcx
  · rw [nodup_set (x := ⟨some b0, T, [.string (lnRest s k)]⟩) (y := ⟨some b0, T, [.string (lnRest s (k + 1))]⟩) hi rfl]; exact hm.dis
  · intro x hxs c hc
    rcases mem_set_of hi hm.dis hxs with rfl | ⟨hxL, _⟩
    · cases hc; exact hnew
    · exact hm.new x hxL c hc
end Go.Proofs.YtplklknkkaeniaaDoor.Eng
