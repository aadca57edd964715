/- A range over a function: an iterator's contract, the statement, and the end of a function that holds one. -/
import Derived.Test.YtplklknkkaeniaaDoorEng
import Derived.RangeFuncOwn
import Derived.OrdersIn
namespace Go.Proofs.YtplklknkkaeniaaDoor.Eng
open Go Go.RowKit
set_option linter.unusedSimpArgs false
set_option linter.unusedVariables false
set_option linter.unusedSectionVars false
variable [dsW : DrwS]

/-- a walk over a list, which a jump may end -/
def seqO {A S T : Type} (body : A → S → Option (S ⊕ T)) : List A → S → Option (S ⊕ T)
  | [], s => some (.inl s)
  | y :: l, s => (body y s).bind fun o => match o with
    | .inl s' => seqO body l s'
    | .inr t => some (.inr t)
theorem seqO_cons {A S T : Type} {body : A → S → Option (S ⊕ T)} {y : A} {l : List A} {s : S} {r : S ⊕ T} (h : seqO body (y :: l) s = some r) :
    ∃ o, body y s = some o ∧ ((∃ s', o = .inl s' ∧ seqO body l s' = some r) ∨ (∃ t, o = .inr t ∧ r = .inr t)) := by
  simp only [seqO, Option.bind_eq_some_iff] at h
  obtain ⟨o, h1, h2⟩ := h
  refine ⟨o, h1, ?_⟩
  cases o with
  | inl s' => exact .inl ⟨s', rfl, h2⟩
  | inr t => exact .inr ⟨t, rfl, (Option.some.inj h2).symm⟩

/-- what an iterator does: rounds with the arguments 'as', one after the other; St: its own step ahead of a round; H: what it reads between -/
def IterC (P : Program) (gf : Nat) (lb : Array Value) (as : List (Array Value)) (H : Nat → World → Prop) (St : Nat → World → World → Prop) : Prop :=
  ∀ (n l : Nat) (J J' : Nat → World → Prop) (Jx : World → Prop) (W : World),
    (∀ k W, J k W → H k W) →
    (∀ k W W', k < as.length → J k W → St k W W' → J' k W') →
    (∀ k W (hk : k < as.length), J' k W → YieldAt Fence.wide (n - 1) P l as[k] W fun e W' => (e = .returned (.bool true) ∧ J (k + 1) W') ∨ (e = .returned (.bool false) ∧ Jx W')) →
    J 0 W → CallsIn Fence.wide n P gf (#[.func (.yield l) #[] #[]] ++ lb) W fun e W' => (∃ v, e = .returned v) ∧ (J as.length W' ∨ Jx W')

/-- behind a range: a base of its own, over which the function's memory is whole again when the mark has been taken -/
def Tail (w0 : World) (W : List Nat) (w2 : World) (W2 : List Nat) (df : DfS) : Prop :=
  ∃ D, df.D = [{ target := .collected D, args := #[] }] ∧ w0.heap.size ≤ D ∧ ∀ L w, Mem w2 W2 L w → w.heap[D]? = some (.deferred (some [])) ∧ Mem w0 W L (w.putObj D (.deferred none))

/-- over another base what lay there before is as it was -/
def KeepR (w0 w1 : World) (W1 : List Nat) : Prop := ∀ L w, Mem w1 W1 L w → KeepW w0 w
theorem Tail.keep {w0 w2 : World} {W2 : List Nat} {df : DfS} (h : Tail w0 [] w2 W2 df) : KeepR w0 w2 W2 := by
  obtain ⟨D, _, hD, hT⟩ := h
  intro L w hm
  obtain ⟨_, h2⟩ := hT L w hm
  have hs := h2.size
  simp only [World.putObj_size] at hs
  refine ⟨fun b hb => ?_, hs⟩
  have := h2.old b hb (by simp)
  rwa [World.putObj_heap_other (by omega)] at this
/-- behind a round -/
def RQ' {S X T : Type} (n : Nat) (w0 : World) (W : List Nat) (w1 : World) (W1 : List Nat) (E : Env) (I : S → X → Prop) (Lk : S → X → List Blk) (r : S ⊕ T) (Q : Exit → Act → World → Prop) (o : S ⊕ T) : Exit → Act → World → Prop
  | .normal, _, w => ∃ s x, o = .inl s ∧ I s x ∧ Mem w1 W1 (Lk s x) w
  | .ret, _, w => ∃ t L', o = .inr t ∧ Mem w1 W1 L' w ∧ (r = .inr t → ∀ (df : DfS) w2 W2, Tail w0 W w2 W2 df → @JX _ df n w2 W2 .ret E L' Q)
  | _, _, _ => False

section
variable {P : Program} {n : Nat} {w0 w1 : World} {W W1 : List Nat} {Q : Exit → Act → World → Prop} {E E' : Env} {L : List Blk}
theorem jr_back {S X T : Type} {I : S → X → Prop} {Lk : S → X → List Blk} {r o : S ⊕ T} (s : S) (x : X) (hy : o = .inl s) (hi : I s x) (l : List Nat) (hr : nd l = true) (hL : at_ L l = Lk s x) :
    JX n w1 W1 .normal E' L (RQ' n w0 W w1 W1 E I Lk r Q o) := fun a w hok => ⟨s, x, hy, hi, hok.mem.pick l hr hL⟩
theorem jr_leaver {S X T : Type} {I : S → X → Prop} {Lk : S → X → List Blk} {r o : S ⊕ T} (t : T) (hy : o = .inr t) (h : r = .inr t → ∀ (df : DfS) w2 W2, Tail w0 W w2 W2 df → @JX _ df n w2 W2 .ret E L Q) :
    JX n w1 W1 .ret E' L (RQ' n w0 W w1 W1 E I Lk r Q o) := fun a w hok => ⟨t, L, hy, hok.mem, h⟩

theorem Mem.put {w : World} (h : Mem w0 W L w) {b : Nat} (hb : w0.heap.size ≤ b) (hL : ∀ x ∈ L, x.b ≠ some b) (o : Obj) : Mem w0 W L (w.putObj b o) :=
  ⟨h.os, h.tape, h.output, h.drw, by simpa using h.size, fun c hc hW => (World.putObj_heap_other (by omega)).trans (h.old c hc hW),
    fun x hx c hc => (World.putObj_heap_other (fun e => hL x hx (by rw [hc, e]))).trans (h.own x hx c hc), h.dis, h.new⟩

/-- another base: the memory as it is -/
theorem Mem.rebase {w w2 : World} (h : Mem w0 W L w) (hh : ∀ b, b < w.heap.size → w2.heap[b]? = w.heap[b]?) : Mem w2 (bs (L.map Blk.b)) L w2 :=
  ⟨rfl, rfl, rfl, Drw.of_le (Nat.le_refl _), Nat.le_refl _, fun _ _ _ => rfl, fun x hx b hb => (hh b (h.lt hx hb)).trans (h.own x hx b hb), h.dis, fun x hx b hb => .inl (by rw [bs_map]; exact List.mem_filterMap.2 ⟨x, hx, hb⟩)⟩

theorem putObj_idem {w : World} {b : Nat} {o o' : Obj} (h : w.heap[b]? = some o) : (w.putObj b o').putObj b o = w := by
  have hlt := heap_lt h
  cases w with
  | mk heap tape drawn os output =>
    simp only [World.putObj] at h ⊢
    congr 1
    apply Array.ext_getElem?
    intro j
    simp only [Array.getElem?_setIfInBounds, Array.size_setIfInBounds]
    split
    · rename_i e; subst e; exact h.symm
    · rfl
theorem putObj_self {w : World} {b : Nat} {o : Obj} (h : w.heap[b]? = some o) : w.putObj b o = w := by
  have h1 := putObj_idem (o' := o) h
  have hlt := heap_lt h
  cases w with
  | mk heap tape drawn os output =>
    simp only [World.putObj] at h ⊢
    congr 1
    apply Array.ext_getElem?
    intro j
    simp only [Array.getElem?_setIfInBounds]
    split
    · rename_i e; subst e; exact h.symm
    · rfl

/-- the end of a function that holds a range over a function -/
def QBM (P : Program) (fn : Func) (R : Value → World → Prop) : Exit → Act → World → Prop
  | .normal, a, w | .ret, a, w => (a.defers = [] ∧ ∃ v, (results fn a.tmps).run P w = .ok v w ∧ R v w) ∨
      ∃ D, a.defers = [{ target := .collected D, args := #[] }] ∧ w.heap[D]? = some (.deferred (some [])) ∧ ∃ v, (results fn a.tmps).run P (w.putObj D (.deferred none)) = .ok v (w.putObj D (.deferred none)) ∧ R v (w.putObj D (.deferred none))
  | _, _, _ => False
theorem QBM_leaves {fn : Func} {R : Value → World → Prop} {a : Act} {w : World} (h : QBM P fn R .ret a w) : LeavesInM Fence.wide n P fn a.tmps (fun e w' => ∃ v, e = .returned v ∧ R v w') a.defers .returning w := by
  rcases h with ⟨hd, v, hr, hR⟩ | ⟨D, hd, hD, v, hr, hR⟩
  · rw [hd]; exact ⟨v, hr, v, rfl, hR⟩
  · rw [hd]
    exact ⟨by simp, .inl ⟨D, _, rfl, run_takeDeferred hD, v, hr, v, rfl, hR⟩⟩
theorem enterM {f : FuncId} {fn : Func} {c : Code} {args : List Value} {w : World} {R : Value → World → Prop} (hf : P.funcs[f]? = some fn) (hb : fn.body = some c)
    (hn : fn.ntmps = n) (hle : Nat.ble args.length n = true) (hm : Mem w W L w) (h : JC P n w W c (argE 0 args) L (QBM P fn R)) :
    Calls P f args.toArray w fun e w' => ∃ v, e = .returned v ∧ R v w' := by
  refine callsIn_wide.1 (callsIn_of_wp_marks (n := 0) (F := Fence.wide) hf hb trivial (wpIn_wide.2 (wp_mono (h _ w ⟨?_, rfl, ?_, hm⟩) ?_)) rfl)
  · have := Nat.le_of_ble_eq_true hle
    simp [hn]; omega
  · intro t g v hl _
    obtain ⟨_, h2⟩ := lk_argE args 0 t g v hl
    simp only [Nat.sub_zero] at h2
    have hlt : t < args.length := by
      rcases Nat.lt_or_ge t args.length with h' | h'
      · exact h'
      · rw [List.getElem?_eq_none h'] at h2; simp at h2
    simp only [Array.getD_eq_getD_getElem?]
    rw [Array.getElem?_append_left (by simpa using hlt)]
    simp [h2]
  · intro e a' w' hq
    cases e with
    | normal => exact QBM_leaves hq
    | ret => exact QBM_leaves hq
    | _ => exact hq.elim
theorem jx_retM [df : DfS] {fn : Func} {R : Value → World → Prop} {rs : List ResultVar} (ht : Tail w0 W w1 W1 df) (hs : List Nat) (v : Value) (bs : List (Nat × Nat)) (hrs : fn.results.toList = rs)
    (hr : (resF P L E rs hs).map (fun r => (one r.1, r.2)) = some (v, bs)) (hb : bs.map (·.1) = bs.map (·.2)) (hR : ∀ w, Mem w0 W L w → R v w) :
    JX n w1 W1 .ret E L (QBM P fn R) := by
  intro a w hok
  obtain ⟨D, hD, _, hT⟩ := ht
  obtain ⟨h1, h2⟩ := hT L w hok.mem
  have hok' : Ok n w0 W E L a (w.putObj D (.deferred none)) := ⟨hok.sz, hok.df, hok.env, h2⟩
  simp only [Option.map_eq_some_iff, Prod.mk.injEq] at hr
  obtain ⟨r, h3, rfl, rfl⟩ := hr
  subst hrs
  exact .inr ⟨D, hok.df.trans hD, h1, _, results_eq (resF_sound hok' _ hs r h3 hb), hR _ h2⟩
theorem jx_ret0 {fn : Func} {R : Value → World → Prop} {rs : List ResultVar} (hs : List Nat) (v : Value) (bs : List (Nat × Nat)) (hrs : fn.results.toList = rs)
    (hr : (resF P L E rs hs).map (fun r => (one r.1, r.2)) = some (v, bs)) (hb : bs.map (·.1) = bs.map (·.2)) (hR : ∀ w, Mem w0 W L w → R v w) :
    JX n w0 W .ret E L (QBM P fn R) := by
  intro a w hok
  simp only [Option.map_eq_some_iff, Prod.mk.injEq] at hr
  obtain ⟨r, h1, rfl, rfl⟩ := hr
  subst hrs
  exact .inl ⟨hok.df, _, results_eq (resF_sound hok _ hs r h1 hb), hR w hok.mem⟩

/-! ### code in a round -/
/-- no way out by want of memory -/
class NoO (Q : Exit → Act → World → Prop) : Prop where
  no : ∀ a w, ¬ Q .outgrown a w
instance {K : Act → World → Prop} {Q : Exit → Act → World → Prop} [h : NoO Q] : NoO (Exit.then K Q) := ⟨fun a w hq => h.no a w hq⟩
instance {i : Nat} {Q : Exit → Act → World → Prop} [h : NoO Q] : NoO (Exit.inBlock i Q) := ⟨fun a w hq => h.no a w hq⟩
instance {S X T : Type} {I : S → X → Prop} {Lk : S → X → List Blk} {r : S ⊕ T} {Q : Exit → Act → World → Prop} {o : S ⊕ T} : NoO (RQ' n w0 W w1 W1 E I Lk r Q o) := ⟨fun _ _ h => h⟩
instance {S X T : Type} {I : S → X → Prop} {Lk : S → X → List Blk} {r : S ⊕ T} {Q : Exit → Act → World → Prop} {o : S ⊕ T} : NoP (RQ' n w0 W w1 W1 E I Lk r Q o) := ⟨fun _ _ _ _ _ h => h⟩
def JR (P : Program) (n : Nat) (w0 : World) (W : List Nat) (c : Code) (E : Env) (L : List Blk) (Q : Exit → Act → World → Prop) : Prop := ∀ l a w, Ok n w0 W E L a w → c.wpIn (Fence.wide.inRound l) 0 P Q a w
/-- no operation puts a call off -/
def calm : Op → Bool
  | .defer _ => false
  | _ => true
theorem callsIn_round {l m : Nat} {f : FuncId} {args : Array Value} {w : World} {R : Ending → World → Prop} (h : Calls P f args w R) : CallsIn (Fence.wide.inRound l) m P f args w R := callsIn_wide (n := m).2 h
theorem wpOpIn_of {ops : Array Oper} (hq : ops.all (fun o => calm o.op) = true) (hno : ∀ a w, ¬ Q .outgrown a w) {l m i : Nat} {K : Act → World → Prop} {a : Act} {w : World} (h : wpOp P ops Q i K a w) : wpOpIn (Fence.wide.inRound l) m P ops Q i K a w := by
  unfold wpOp at h
  unfold wpOpIn
  split
  · rename_i he; simp only [he] at h; exact h
  · rename_i o ho
    simp only [ho] at h
    have hc : calm o.op = true := by
      obtain ⟨hlt, he⟩ := Array.getElem?_eq_some_iff.1 ho
      have := Array.all_eq_true.1 hq i hlt
      rwa [he] at this
    split
    · rename_i hw
      simp only [hw, if_true] at h
      rcases h with h | ⟨_, a', w', h⟩
      · unfold Oper.wp at h
        unfold Oper.wpIn
        refine ⟨fun _ _ => trivial, ?_⟩
        rw [Oper.semAt_eq _ _ _ (fun c e => by rw [e] at hc; cases hc)]
        generalize (execOp a.eval o).run P w = r at *
        cases r with
        | ok x w' =>
          cases x <;> simp only [Oper.upon, Oper.uponIn] at h ⊢
          case value => exact h
          case skip => exact h
          case defer => exact h
          case enter => exact ⟨(fun e => by cases e), callsIn_round (Calls.mono h fun e w'' he => by cases e <;> exact he)⟩
          case row => exact ⟨(fun e => by cases e), fun c cs hr => let ⟨v, w'', r, s⟩ := h c cs; ⟨v, w'', r, stepsIn_wide.2 s⟩⟩
        | halt x w' => cases x <;> simp only [Oper.upon, Oper.uponIn] at h ⊢ <;> exact h
      · exact absurd h (hno a' w')
    · rename_i hw
      simp only [hw] at h
      exact ⟨fun _ _ => trivial, h⟩
theorem wpOpsIn_of {ops : Array Oper} (hq : ops.all (fun o => calm o.op) = true) (hno : ∀ a w, ¬ Q .outgrown a w) {l m : Nat} : ∀ (is : List Nat) (a : Act) (w : World), wpOps P ops Q is a w → wpOpsIn (Fence.wide.inRound l) m P ops Q is a w
  | [], a, w, h => h
  | i :: is, a, w, h => by
    rw [wpOps_cons] at h
    rw [wpOpsIn_cons]
    exact wpOpIn_mono (fun a' w' h' => wpOpsIn_of hq hno is a' w' h') (wpOpIn_of hq hno h)
theorem wpAnyIn_of {md : Region.Mode} {ops : Array Oper} (hq : ops.all (fun o => calm o.op) = true) (hno : ∀ a w, ¬ Q .outgrown a w) {l m : Nat} : ∀ (fuel : Nat) (listed : Array Bool) (a : Act) (w : World), wpAny P md ops Q fuel listed a w → wpAnyIn (Fence.wide.inRound l) m P md ops Q fuel listed a w
  | 0, _, _, _, h => h
  | fuel + 1, listed, a, w, h => ⟨h.1, fun i hi => wpOpIn_mono (fun a' w' h' => wpAnyIn_of hq hno fuel _ a' w' h') (wpOpIn_of hq hno (h.2 i hi))⟩
end
section
variable {P : Program} {n : Nat} {w0 : World} {W : List Nat} {Q : Exit → Act → World → Prop} {E : Env} {L : List Blk} {ops : Array Oper}
theorem jr_region {id : Nat} [hno : NoO Q] (hq : ops.all (fun o => calm o.op) = true) (h : JO P n w0 W ops 0 E L Q) : JR P n w0 W (.region id ops false) E L Q := fun l a w hok => wpIn_region (wpOpsIn_of hq hno.no _ _ _ (h a w hok))
theorem jr_draw {id : Nat} [hno : NoO Q] (hq : ops.all (fun o => calm o.op) = true) (Ls : List Blk) (N : Nat) (hm : P.follows .mixedOrders = true) (hN : ops.size = N) (h : JD P n w0 W ops Ls [] N E L Q) : JR P n w0 W (.region id ops true) E L Q := by
  intro l a w hok
  subst hN
  refine wpIn_region_any hm (wpAnyIn_of hq hno.no _ _ _ _ (wpAny_of_held (S := Mem w0 W Ls) _ _ _ _ (h a _ ?_)))
  exact ⟨hok.sz, hok.df, hok.env, ⟨hok.mem.os, hok.mem.tape, hok.mem.output, hok.mem.drw.trans (Drw.of_le (Nat.le_succ _)), hok.mem.size, hok.mem.old, hok.mem.own, hok.mem.dis, hok.mem.new⟩⟩
/-- behind a part of a round -/
theorem jr_seq {x y : Code} (h : JR P n w0 W x E L (Exit.then (fun a w => ∀ l, y.wpIn (Fence.wide.inRound l) 0 P Q a w) Q)) : JR P n w0 W (.seq x y) E L Q :=
  fun l a w hok => wpIn_seq (wpIn_mono (h l a w hok) fun e a w hq => by cases e <;> first | exact hq l | exact hq)
theorem jr_then {y : Code} (h : JR P n w0 W y E L Q) : JX n w0 W .normal E L (Exit.then (fun a w => ∀ l, y.wpIn (Fence.wide.inRound l) 0 P Q a w) Q) := fun a w hok l => h l a w hok
theorem jr_skip (h : JX n w0 W .normal E L Q) : JR P n w0 W .skip E L Q := fun l a w hok => wpIn_skip (h a w hok)
theorem jr_exit {i : Nat} (h : JX n w0 W (.exit i) E L Q) : JR P n w0 W (.exit i) E L Q := fun l a w hok => wpIn_exit (h a w hok)
theorem jr_ret (h : JX n w0 W .ret E L Q) : JR P n w0 W .ret E L Q := fun l a w hok => wpIn_ret (h a w hok)
theorem jr_block {i : Nat} {c : Code} (h : JR P n w0 W c E L (Exit.inBlock i Q)) : JR P n w0 W (.block i c) E L Q := fun l a w hok => wpIn_block (h l a w hok)
theorem jr_cond {c : Operand} {x y : Code} (b : Bool) (hb : evo E [] c = some (.bool b)) (ht : b = true → JR P n w0 W x E L Q) (hf : b = false → JR P n w0 W y E L Q) :
    JR P n w0 W (.cond c x y) E L Q := by
  intro l a w hok
  have := evo_sound hok (G := []) (by simp) hb
  exact wpIn_cond_split this (fun e => ht e l a w hok) (fun e => hf e l a w hok)
theorem jr_meet {J : Type} {c : Code} (I : J → Prop) (Ej : J → Env) (Lj : J → List Blk) (h : JR P n w0 W c E L (Exit.then (fun a w => ∃ j, I j ∧ Ok n w0 W (Ej j) (Lj j) a w) Q))
    (hk : ∀ j, I j → JX n w0 W .normal (Ej j) (Lj j) Q) : JR P n w0 W c E L Q := by
  intro l a w hok
  refine wpIn_mono (h l a w hok) ?_
  intro e a' w' hq
  cases e with
  | normal => obtain ⟨j, hi, hok'⟩ := hq; exact hk j hi a' w' hok'
  | _ => exact hq
/-- a loop's rounds, counted -/
inductive ItN {S T : Type} (f : S → Option (S ⊕ T)) (t : T) : Nat → S → Prop
  | done {s} : f s = some (.inr t) → ItN f t 0 s
  | step {m s s'} : f s = some (.inl s') → ItN f t m s' → ItN f t (m + 1) s
omit dsW in
theorem ItN.of {S T : Type} {f : S → Option (S ⊕ T)} {t : T} {s : S} (h : It f t s) : ∃ m, ItN f t m s := by
  induction h with
  | done e => exact ⟨0, .done e⟩
  | step e _ ih => obtain ⟨m, h⟩ := ih; exact ⟨m + 1, .step e h⟩
instance {S X T : Type} {I : S → X → Prop} {Es : S → X → Env} {Ls : S → X → List Blk} {t : T} {y : S ⊕ T} [h : NoO Q] : NoO (LQ n w0 W I Es Ls t Q y) := ⟨fun a w hq => hq.1⟩
theorem jr_loop {S X T : Type} {f : S → Option (S ⊕ T)} {c : Code} (I : S → X → Prop) (Es : S → X → Env) (Ls : S → X → List Blk) {s : S} {t : T} (hrun : loop f s = some t) (x : X) (hI : I s x)
    (hE : (Es s x).map (fun e => lk E e.1) = (Es s x).map (fun e => some e.2)) (l : List Nat) (hr : nd l = true) (hL : at_ L l = Ls s x)
    (round : ∀ s x y, I s x → f s = some y → JR P n w0 W c (Es s x) (Ls s x) (LQ n w0 W I Es Ls t Q y)) : JR P n w0 W (.loop c) E L Q := by
  intro R a w hok
  obtain ⟨m, hit⟩ := ItN.of (loop_it.1 hrun)
  have h0 : Ok n w0 W (Es s x) (Ls s x) a w := (lk_ok hok hE (fun _ h => h) hok.mem.dis).mem' (hok.mem.pick l hr hL)
  clear hok hE hL hrun hr
  let J : Nat → Act → World → Prop := fun m a w => ∃ s x, I s x ∧ ItN f t m s ∧ Ok n w0 W (Es s x) (Ls s x) a w
  have least : ∀ a w, (∃ m, J m a w) → ∃ m, J m a w ∧ ∀ j, J j a w → m ≤ j := by
    rintro a w ⟨m, h⟩
    induction m using Nat.strongRecOn with
    | _ m ih =>
      by_cases hx : ∃ j, j < m ∧ J j a w
      · obtain ⟨j, hj, h2⟩ := hx; exact ih j hj h2
      · exact ⟨m, h, fun j hj => by
          rcases Nat.lt_or_ge j m with c | c
          · exact absurd ⟨j, c, hj⟩ hx
          · exact c⟩
  open Classical in
  let μ : Act → World → Nat := fun a w => if h : ∃ m, J m a w then (least a w h).choose else 0
  have hμ : ∀ m a w, J m a w → μ a w ≤ m ∧ J (μ a w) a w := by
    intro m a w h
    have hx : ∃ m, J m a w := ⟨m, h⟩
    have e : μ a w = (least a w hx).choose := dif_pos hx
    have hs := (least a w hx).choose_spec
    rw [e]
    exact ⟨hs.2 m h, hs.1⟩
  refine wpIn_loop (fun a w => ∃ m, J m a w) μ ⟨m, s, x, hI, hit, h0⟩ ?_
  rintro a w ⟨m, h⟩
  obtain ⟨_, s, x, hi, hit, hok⟩ := hμ m a w h
  generalize hk : μ a w = k at hit
  cases hit with
  | done e =>
    refine wpIn_mono (round s x _ hi e R a w hok) ?_
    intro ex a' w' hq
    cases ex with
    | normal => obtain ⟨s', x', h, _⟩ := hq; cases h
    | _ => obtain ⟨_, t', h, hq⟩ := hq; cases h; exact hq rfl
  | step e h2 =>
    refine wpIn_mono (round s x _ hi e R a w hok) ?_
    intro ex a' w' hq
    cases ex with
    | normal =>
      obtain ⟨s2, x', h, hi', hok'⟩ := hq
      cases h
      have hJ : J _ a' w' := ⟨_, x', hi', h2, hok'⟩
      have := (hμ _ a' w' hJ).1
      exact ⟨⟨_, hJ⟩, by omega⟩
    | _ => obtain ⟨_, t', h, hq⟩ := hq; cases h
theorem jr_ghost {S : Type} {c : Code} (T : TypeId) (enc : S → List Value) (h : JR P n w0 W c E (L ++ [⟨none, T, row enc [] []⟩]) Q) : JR P n w0 W c E L Q :=
  fun l a w hok => h l a w (hok.mem' (hok.mem.ghost T _))
end

/-! ### the statement -/
section
variable {P : Program} {n : Nat} {w0 : World} {W : List Nat} {Q : Exit → Act → World → Prop} {E : Env} {L : List Blk}
/-- what the parameters of a round are -/
def putEs (E : Env) : List Tmp → List Value → Env
  | p :: ps, v :: vs => putEs ((p, [], v) :: E) ps vs
  | _, _ => E
def putEOk (n : Nat) (E : Env) : List Tmp → List Value → Bool
  | p :: ps, v :: vs => (Nat.blt p n && freeOf E p) && putEOk n ((p, [], v) :: E) ps vs
  | _, _ => true
theorem putEs_ok {w : World} : ∀ (ps : List Tmp) (vs : List Value) (E : Env) (a : Act), putEOk n E ps vs = true → Ok n w0 W E L a w →
    Ok n w0 W (putEs E ps vs) L { a with tmps := (ps.zip vs).foldl (fun t (p, v) => t.setIfInBounds p v) a.tmps } w
  | [], _, E, a, _, h => h
  | _ :: _, [], E, a, _, h => h
  | p :: ps, v :: vs, E, a, hk, h => by
    simp only [putEOk, Bool.and_eq_true] at hk
    have h1 : Ok n w0 W ((p, [], v) :: E) L (a.put (some p) v) w := Ok.put h (blt hk.1.1) hk.1.2 (by simp) (fun _ => rfl)
    exact putEs_ok ps vs _ _ hk.2 h1

theorem jc_range {A S X T : Type} {body : A → S → Option (S ⊕ T)} {as : List A} {r : S ⊕ T} {g : Operand} {ps : Array Tmp} {assign c : Code} {gf : Nat} {lb : Array Value}
    (enc : A → Array Value) (I : S → X → Prop) (Ls : Nat → S → X → List Blk) (E1 : A → Env) (H : Nat → World → Prop) (St : Nat → World → World → Prop)
    {s : S} (hrun : seqO body as s = some r) (x : X) (hI : I s x)
    (hg : evo E [] g = some (.func (.func gf) #[] lb)) (eg : ∀ args w, (callFunc gf args).run P w = .ok (.enter gf args) w)
    (hit : IterC P gf lb (as.map enc) H St) (hps : ∀ y, (enc y).size = ps.size) (hpo : ∀ y, putEOk n E ps.toList (enc y).toList = true)
    (l : List Nat) (hr : nd l = true) (hL : at_ L l = Ls 0 s x)
    (hH : ∀ k s x w1 W1 w b o, I s x → Mem w1 W1 (Ls k s x) (World.putObj w b o) → (∀ y ∈ Ls k s x, y.b ≠ some b) → H k w)
    (hSt : ∀ k s x w1 W1 w w' b o o', k < as.length → I s x → Mem w1 W1 (Ls k s x) (w.putObj b o) → w.heap[b]? = some o' → b < w1.heap.size → b ∉ W1 → St k w w' → Mem w1 W1 (Ls (k + 1) s x) (w'.putObj b o) ∧ w'.heap[b]? = some o')
    (hassign : ∀ w1 W1 y k s x (Q : Exit → Act → World → Prop), NoO Q → JX n w1 W1 .normal (E1 y) (Ls k s x) Q → JR P n w1 W1 assign (putEs E ps.toList (enc y).toList) (Ls k s x) Q)
    (round : ∀ w1 W1 k s x y o, (W = [] → KeepR w0 w1 W1) → I s x → as[k]? = some y → body y s = some o → JR P n w1 W1 c (E1 y) (Ls (k + 1) s x) (RQ' n w0 W w1 W1 E I (Ls (k + 1)) r Q o))
    (after : ∀ (df : DfS) w2 W2, Tail w0 W w2 W2 df → ∀ s' x', r = .inl s' → I s' x' → @JX _ df n w2 W2 .normal E (Ls as.length s' x') Q) :
    JC P n w0 W (.rangeFunc g ps assign c) E L Q := by
  intro a w hok
  refine (wpIn_wide (n := 2)).1 (wpIn_rangeFunc ?_)
  intro fn _
  have hm := hok.mem.pick l hr hL
  have hev : a.eval g = .func (.func gf) #[] lb := evo_sound hok (G := []) (by simp) hg
  obtain ⟨rec, hrec⟩ : ∃ rec : LoopState → Option Code → Loop, rec = fun st pe => { state := st, pending := pe, fn, tmps := a.tmps, params := ps, assign, body := c, defers := w.heap.size } := ⟨_, rfl⟩
  obtain ⟨W1w, hW1⟩ : ∃ W1w, (w.alloc (.deferred (some []))).alloc (.loop (rec .ready none)) = W1w := ⟨_, rfl⟩
  have hsz : W1w.heap.size = w.heap.size + 2 := by rw [← hW1]; simp [World.size_alloc]
  have hL1 : W1w.heap[w.heap.size + 1]? = some (.loop (rec .ready none)) := by
    rw [← hW1]; have := World.alloc_heap_new (w.alloc (.deferred (some []))) (.loop (rec .ready none)); rwa [World.size_alloc] at this
  have hK1 : W1w.heap[w.heap.size]? = some (.deferred (some [])) := by
    rw [← hW1]; exact (Below.heap_alloc _ _ _ (by simp)).trans (World.alloc_heap_new w _)
  have hold : ∀ b, b < w.heap.size → W1w.heap[b]? = w.heap[b]? := fun b hb => by
    rw [← hW1]; exact (Below.heap_alloc _ _ _ (by simp; omega)).trans (Below.heap_alloc _ _ _ hb)
  have hos : W1w.os = w.os ∧ W1w.tape = w.tape ∧ W1w.output = w.output ∧ W1w.drawn = w.drawn := by rw [← hW1]; exact ⟨rfl, rfl, rfl, rfl⟩
  obtain ⟨R, hR⟩ : ∃ R, R = w.heap.size + 1 := ⟨_, rfl⟩
  obtain ⟨D, hD⟩ : ∃ D, D = w.heap.size := ⟨_, rfl⟩
  obtain ⟨busy, hbusy⟩ : ∃ busy, busy = Obj.loop (rec .busy none) := ⟨_, rfl⟩
  obtain ⟨wB, hwB⟩ : ∃ wB, wB = W1w.putObj R busy := ⟨_, rfl⟩
  obtain ⟨Ws, hWs⟩ : ∃ Ws, Ws = bs ((Ls 0 s x).map Blk.b) := ⟨_, rfl⟩
  have hWlt : ∀ b ∈ Ws, b < w.heap.size ∧ (b ∈ W ∨ w0.heap.size ≤ b) := by
    intro b hb
    rw [hWs, bs_map] at hb
    obtain ⟨y, hy, hyb⟩ := List.mem_filterMap.1 hb
    exact ⟨hm.lt hy hyb, hm.new y hy b hyb⟩
  have hBs : wB.heap.size = w.heap.size + 2 := by rw [hwB, World.putObj_size, hsz]
  have hB : Mem wB Ws (Ls 0 s x) wB := by
    rw [hWs]
    exact hm.rebase fun b hb => by rw [hwB]; exact (World.putObj_heap_other (by omega)).trans (hold b hb)
  have hBR : wB.heap[R]? = some busy := by rw [hwB]; exact World.putObj_heap_same (by omega)
  have hBD : wB.heap[D]? = some (.deferred (some [])) := by rw [hwB]; exact (World.putObj_heap_other (by omega)).trans (by rw [hD]; exact hK1)
  have hRW : R ∉ Ws := fun h => by have := (hWlt R h).1; omega
  have hDW : D ∉ Ws := fun h => by have := (hWlt D h).1; omega
  have hne : ∀ (L : List Blk) (V : World), Mem wB Ws L V → ∀ y ∈ L, y.b ≠ some R ∧ y.b ≠ some D := by
    intro L V hm y hy
    refine ⟨fun e => ?_, fun e => ?_⟩
    · rcases hm.new y hy _ e with h | h
      · exact hRW h
      · omega
    · rcases hm.new y hy _ e with h | h
      · exact hDW h
      · omega
  -- behind the range: what the tail may lean on
  have tail : ∀ (L : List Blk) (V : World) (o : Obj), Mem wB Ws L (V.putObj R busy) → Tail w0 W (V.putObj R o) (bs (L.map Blk.b)) ⟨[{ target := .collected D, args := #[] }]⟩ ∧ Mem (V.putObj R o) (bs (L.map Blk.b)) L (V.putObj R o) := by
    intro L V o hm2
    have hVs : V.heap.size = (V.putObj R busy).heap.size := by simp
    have hs2 := hm2.size
    have hR2 : R < V.heap.size := by omega
    have hback : ∀ b, b ≠ R → (V.putObj R o).heap[b]? = (V.putObj R busy).heap[b]? := fun b hb => by rw [World.putObj_heap_other hb, World.putObj_heap_other hb]
    have hmL : Mem (V.putObj R o) (bs (L.map Blk.b)) L (V.putObj R o) :=
      ⟨rfl, rfl, rfl, Drw.of_le (Nat.le_refl _), Nat.le_refl _, fun _ _ _ => rfl, fun y hy b hb => (hback b (fun e => (hne L _ hm2 y hy).1 (by rw [hb, e]))).trans (hm2.own y hy b hb), hm2.dis, fun y hy b hb => .inl (by rw [bs_map]; exact List.mem_filterMap.2 ⟨y, hy, hb⟩)⟩
    refine ⟨⟨D, rfl, by rw [hD]; exact hok.mem.size, fun L' V' hm3 => ?_⟩, hmL⟩
    have hbl : ∀ b, b ∈ bs (L.map Blk.b) → b ≠ D ∧ (b ∈ W ∨ w0.heap.size ≤ b) := by
      intro b hb
      rw [bs_map] at hb
      obtain ⟨y, hy, hyb⟩ := List.mem_filterMap.1 hb
      refine ⟨fun e => (hne L _ hm2 y hy).2 (by rw [hyb, e]), ?_⟩
      rcases hm2.new y hy b hyb with h | h
      · exact (hWlt b h).2
      · have := hok.mem.size; exact .inr (by omega)
    have hDV : (V.putObj R o).heap[D]? = some (.deferred (some [])) := by
      rw [hback D (by omega), hm2.old D (by omega) hDW, hBD]
    have hDs : D < (V.putObj R o).heap.size := heap_lt hDV
    have hD3 : V'.heap[D]? = some (.deferred (some [])) := (hm3.old D hDs (fun h => (hbl D h).1 rfl)).trans hDV
    refine ⟨hD3, ?_⟩
    have e1 := hm3.os; have e2 := hm2.os; have e3 := hok.mem.os
    have hwo : wB.os = w.os ∧ wB.tape = w.tape ∧ wB.output = w.output ∧ wB.drawn = w.drawn := by rw [hwB]; exact hos
    have hall : Mem w0 W L' V' := by
      refine ⟨?_, ?_, ?_, ?_, ?_, ?_, hm3.own, hm3.dis, ?_⟩
      · exact hm3.os.trans (hm2.os.trans (hwo.1.trans hok.mem.os))
      · exact hm3.tape.trans (hm2.tape.trans (hwo.2.1.trans hok.mem.tape))
      · exact hm3.output.trans (hm2.output.trans (hwo.2.2.1.trans hok.mem.output))
      · have h2 := hm2.drw
        rw [hwo.2.2.2] at h2
        exact (hok.mem.drw.trans h2).trans hm3.drw
      · have h1 := hok.mem.size; have h2 := hm3.size; simp only [World.putObj_size] at h2; omega
      · intro b hb hbW
        have h1 := hok.mem.size
        rw [hm3.old b (by simp only [World.putObj_size]; omega) (fun h => by rcases (hbl b h).2 with h | h; exact hbW h; omega), hback b (by omega), hm2.old b (by omega) (fun h => by rcases (hWlt b h).2 with h | h; exact hbW h; omega), hwB, World.putObj_heap_other (by omega), hold b (by omega)]
        exact hok.mem.old b hb hbW
      · intro y hy b hb
        have h1 := hok.mem.size
        rcases hm3.new y hy b hb with h | h
        · exact (hbl b h).2
        · simp only [World.putObj_size] at h; exact .inr (by omega)
    refine hall.put (by have := hok.mem.size; omega) (fun y hy e => ?_) _
    rcases hm3.new y hy D e with h | h
    · exact (hbl D h).1 rfl
    · omega
  have hkR : W = [] → KeepR w0 wB Ws := by
    intro hW0 L V hm2
    have h1 := hok.mem.size
    have h2 := hm2.size
    refine ⟨fun b hb => ?_, by omega⟩
    rw [hm2.old b (by omega) (fun h => by
      rcases (hWlt b h).2 with h3 | h3
      · rw [hW0] at h3; cases h3
      · omega), hwB, World.putObj_heap_other (by omega), hold b (by omega)]
    exact hok.mem.old b hb (by rw [hW0]; simp)
  have hdf : a.defers = [] := hok.df
  refine ⟨w.heap.size + 1, [{ target := .collected w.heap.size, args := #[] }], W1w, { target := .fn (.func gf) lb, args := #[.func (.yield (w.heap.size + 1)) #[] #[]] }, W1w, gf,
    #[.func (.yield (w.heap.size + 1)) #[] #[]] ++ lb, W1w, ?_, ?_, ?_, ?_, (fun _ => by omega), ?_⟩
  · rw [← hW1, hrec]; exact run_enterLoop_outer _ _ _ _ _
  · simp only [resolve, hev]
    simp [go_sem]
  · intro f' _; trivial
  · simp [invoke, go_sem, eg]
  · rw [← hR]
    refine (hit 1 R (fun k V => V.heap[R]? = some (.loop (rec .ready none)) ∧ ∃ s x, I s x ∧ seqO body (as.drop k) s = some r ∧ Mem wB Ws (Ls k s x) (V.putObj R busy))
      (fun k V => V.heap[R]? = some (.loop (rec .ready none)) ∧ ∃ s x, I s x ∧ seqO body (as.drop k) s = some r ∧ Mem wB Ws (Ls (k + 1) s x) (V.putObj R busy))
      (fun V => ∃ t L', V.heap[R]? = some (.loop (rec .done (some .ret))) ∧ Mem wB Ws L' (V.putObj R busy) ∧ r = .inr t ∧ ∀ (df : DfS) w2 W2, Tail w0 W w2 W2 df → @JX _ df n w2 W2 .ret E L' Q)
      W1w ?_ ?_ ?_ ?_).mono ?_
    · rintro k V ⟨_, s, x, hi, _, hmem⟩
      exact hH k s x wB Ws V R busy hi hmem fun y hy => (hne _ _ hmem y hy).1
    · rintro k V V' hk ⟨hl, s, x, hi, hs, hmem⟩ hst
      obtain ⟨h1, h2⟩ := hSt k s x wB Ws V V' R busy _ (by simpa using hk) hi hmem hl (by omega) hRW hst
      exact ⟨h2, s, x, hi, hs, h1⟩
    · rintro k V hk ⟨hl, s, x, hi, hs, hmem⟩
      simp only [List.length_map] at hk
      rw [List.drop_eq_getElem_cons hk] at hs
      obtain ⟨o, ho, hcase⟩ := seqO_cons hs
      have hlt : R < V.heap.size := heap_lt hl
      have hy := run_yield (P := P) (args := enc as[k]) hl (by rw [hrec]; exact hps _)
      rw [hrec] at hy
      simp only [List.getElem_map]
      refine ⟨fn, _, assign, c, hy, roundIn_of_wpIn (n := 0) trivial ?_⟩
      have hfold : (Array.foldl (fun tmps (t, a) => tmps.setIfInBounds t a) a.tmps (ps.zip (enc as[k]))) = ((ps.toList.zip (enc as[k]).toList).foldl (fun t (p, v) => t.setIfInBounds p v) a.tmps) := by
        rw [← Array.foldl_toList, Array.toList_zip]
      rw [hfold]
      have hVR : V.putObj R (.loop (rec .ready none)) = V := putObj_self hl
      obtain ⟨_, hmV⟩ := tail _ V (.loop (rec .ready none)) hmem
      rw [hVR] at hmV
      have hok0 : Ok n V (bs ((Ls (k + 1) s x).map Blk.b)) E (Ls (k + 1) s x) { tmps := a.tmps, defers := [] } V := ⟨hok.sz, rfl, hok.env, hmV⟩
      refine hassign V (bs ((Ls (k + 1) s x).map Blk.b)) as[k] (k + 1) s x _ ⟨fun _ _ h => h⟩ ?_ R _ V (putEs_ok ps.toList (enc as[k]).toList E _ (hpo _) hok0)
      intro a1 w1 hok1
      have hm1 := hok1.mem
      have hbl : ∀ b, b ∈ bs ((Ls (k + 1) s x).map Blk.b) → b ≠ R ∧ (b ∈ Ws ∨ wB.heap.size ≤ b) := by
        intro b hb
        rw [bs_map] at hb
        obtain ⟨y, hy, hyb⟩ := List.mem_filterMap.1 hb
        exact ⟨fun e => (hne _ _ hmem y hy).1 (by rw [hyb, e]), hmem.new y hy b hyb⟩
      have hVs := hmem.size
      simp only [World.putObj_size] at hVs
      have hR1 : w1.heap[R]? = some (.loop (rec .ready none)) := (hm1.old R hlt (fun h => (hbl R h).1 rfl)).trans hl
      refine ⟨_, run_beginRound hR1 (by rw [hrec]), ?_⟩
      have hbz : Obj.loop { rec LoopState.ready none with state := .busy } = busy := by rw [hbusy, hrec]
      rw [hbz]
      have hcomp : Mem wB Ws (Ls (k + 1) s x) (w1.putObj R busy) := by
        refine ⟨hm1.os.trans hmem.os, hm1.tape.trans hmem.tape, hm1.output.trans hmem.output, hmem.drw.trans hm1.drw, ?_, ?_, ?_, hmem.dis, hmem.new⟩
        · have := hm1.size; simp only [World.putObj_size]; omega
        · intro b hb hbW
          by_cases e : b = R
          · subst e; rw [World.putObj_heap_same (heap_lt hR1)]; exact hBR.symm
          · rw [World.putObj_heap_other e, hm1.old b (by omega) (fun h => by rcases (hbl b h).2 with h | h; exact hbW h; omega)]
            exact (World.putObj_heap_other e).symm.trans (hmem.old b hb hbW)
        · intro y hy b hb
          exact (World.putObj_heap_other (fun e => (hne _ _ hmem y hy).1 (by rw [hb, e]))).trans (hm1.own y hy b hb)
      refine wpIn_mono (round wB Ws k s x as[k] o hkR hi (List.getElem?_eq_getElem hk) ho R a1 (w1.putObj R busy) ⟨hok1.sz, hok1.df, hok1.env, hcomp⟩) ?_
      intro e a3 w3 hq
      cases e with
      | normal =>
        obtain ⟨s2, x2, rfl, hi2, hm3⟩ := hq
        have hR3 : w3.heap[R]? = some busy := (hm3.old R (by omega) hRW).trans hBR
        rw [hbusy] at hR3
        refine ⟨_, _, run_endRound none hR3, .inl ⟨rfl, ?_, s2, x2, hi2, ?_, ?_⟩⟩
        · rw [World.putObj_heap_same (heap_lt hR3), hrec]; rfl
        · rcases hcase with ⟨s', e1, e2⟩ | ⟨t, e1, _⟩
          · cases e1; exact e2
          · cases e1
        · rw [← hbusy] at hR3
          rw [putObj_idem hR3]; exact hm3
      | ret =>
        obtain ⟨t, L', rfl, hm3, hx⟩ := hq
        have hR3 : w3.heap[R]? = some busy := (hm3.old R (by omega) hRW).trans hBR
        rw [hbusy] at hR3
        have hrt : r = .inr t := by
          rcases hcase with ⟨s', e1, e2⟩ | ⟨t', e1, e2⟩
          · cases e1
          · cases e1; exact e2
        refine ⟨_, _, run_endRound (some .ret) hR3, .inr ⟨rfl, t, L', ?_, ?_, hrt, hx hrt⟩⟩
        · rw [World.putObj_heap_same (heap_lt hR3), hrec]; rfl
        · rw [← hbusy] at hR3
          rw [putObj_idem hR3]; exact hm3
      | _ => exact hq.elim
    · refine ⟨by rw [hR]; exact hL1, s, x, hI, by simpa using hrun, ?_⟩
      rw [← hwB]; exact hB
    · rintro e V ⟨⟨v, rfl⟩, hfin⟩
      rcases hfin with ⟨hl, s', x', hi, hs, hmem⟩ | ⟨t, L', hl, hmem, hrt, hx⟩
      · simp only [List.length_map] at hs hmem
        rw [List.drop_of_length_le (Nat.le_refl _)] at hs
        have hrs : r = .inl s' := (Option.some.inj hs).symm
        refine ⟨_, _, run_endLoop hl (by rw [hrec]; simp), ?_⟩
        have hpe : (rec LoopState.ready none).pending = none := by rw [hrec]
        rw [hpe]
        exact (after ⟨[{ target := .collected D, args := #[] }]⟩ _ _ (tail _ V _ hmem).1 s' x' hrs hi) _ _ (by
          refine @Ok.mk dsW ⟨[{ target := .collected D, args := #[] }]⟩ _ _ _ _ _ _ _ ?_ ?_ ?_ ?_
          · exact hok.sz
          · show [_] ++ a.defers = [_]
            rw [hdf, hD]; rfl
          · exact hok.env
          · exact (tail _ V _ hmem).2)
      · refine ⟨_, _, run_endLoop hl (by rw [hrec]; simp), ?_⟩
        have hpe : (rec LoopState.done (some Code.ret)).pending = some .ret := by rw [hrec]
        rw [hpe]
        exact wpIn_ret ((hx ⟨[{ target := .collected D, args := #[] }]⟩ _ _ (tail _ V _ hmem).1) _ _ (by
          refine @Ok.mk dsW ⟨[{ target := .collected D, args := #[] }]⟩ _ _ _ _ _ _ _ ?_ ?_ ?_ ?_
          · exact hok.sz
          · show [_] ++ a.defers = [_]
            rw [hdf, hD]; rfl
          · exact hok.env
          · exact (tail _ V _ hmem).2))
theorem jx_to {e : Exit} (E' : Env) (l : List Nat) {L' : List Blk} (hE : E'.map (fun e => lk E e.1) = E'.map (fun e => some e.2)) (hr : nd l = true) (hL : at_ L l = L') (h : JX n w0 W e E' L' Q) : JX n w0 W e E L Q :=
  fun a w hok => h a w ((lk_ok hok hE (fun _ h => h) hok.mem.dis).mem' (hok.mem.pick l hr hL))
theorem jx_fallM [df : DfS] {fn : Func} {R : Value → World → Prop} (h : JX n w0 W .ret E L (QBM P fn R)) : JX n w0 W .normal E L (QBM P fn R) := h
end

omit dsW in
theorem ifS {β : Type} {p : Prop} [Decidable p] {x : Option β} {r : β} (h : (if p then x else none) = some r) : p ∧ x = some r := by
  split at h
  · rename_i c; exact ⟨c, h⟩
  · cases h
/-! ### slices.Backward, of a row of numbers -/
/-- indices and elements, from the last one on -/
def backL (xs : List Int) : List (Int × Int) := (List.range xs.length).map fun k => (((xs.length - 1 - k : Nat) : Int), xs[xs.length - 1 - k]?.getD 0)
def encIV (y : Int × Int) : Array Value := #[.int .i64 y.1, .int .i64 y.2]
def backH (b0 : Nat) (o : Option Nat) (xs : List Int) (cap : Nat) (W : World) : Prop :=
  W.cell? ⟨b0, 0, none⟩ = some (.slice (o.map fun b => ⟨b, 0, none⟩) xs.length cap) ∧ ∀ (j : Nat) x, xs[j]? = some x → ∃ b, o = some b ∧ W.cell? ⟨b, j, none⟩ = some (.int .i64 x)
theorem cell_put {w : World} {b c : Nat} {o : Obj} (h : some c ≠ some b) (j : Nat) : (w.putObj b o).cell? ⟨c, j, none⟩ = w.cell? ⟨c, j, none⟩ := by
  simp only [World.cell?]
  rw [World.putObj_heap_other (fun e => h (by rw [e]))]
theorem back_H {w1 : World} {W1 : List Nat} {L : List Blk} {w : World} {b : Nat} {o' : Obj} {b0 : Nat} {o : Option Nat} {xs : List Int} {cap n : Nat} {T T' : TypeId} {sp : List Value} {enc : Int → List Value} (hm : Mem w1 W1 L (w.putObj b o')) (hne : ∀ y ∈ L, y.b ≠ some b) (i j : Nat)
    (hi : L[i]? = some ⟨some b0, T, [.slice (o.map fun b => ⟨b, 0, none⟩) n cap]⟩) (hn : xs.length = n) (hj : L[j]? = some ⟨o, T', row enc xs sp⟩) (henc : ∀ x, enc x = [.int .i64 x]) (ho : o = none → xs = []) : backH b0 o xs cap w := by
  subst hn
  refine ⟨?_, fun k x hx => ?_⟩
  · have := hm.cell (List.mem_of_getElem? hi) rfl 0 _ rfl
    rwa [cell_put (hne _ (List.mem_of_getElem? hi))] at this
  · cases o with
    | none => rw [ho rfl] at hx; simp at hx
    | some c =>
      refine ⟨c, rfl, ?_⟩
      have hf := flatMap_get (enc := enc) (m := 1) (fun x => by rw [henc]; rfl) xs k x hx 0 (.int .i64 x) (by rw [henc]; rfl)
      have hlt : k * 1 + 0 < (xs.flatMap enc).length := by
        rcases Nat.lt_or_ge (k * 1 + 0) (xs.flatMap enc).length with h' | h'
        · exact h'
        · rw [List.getElem?_eq_none h'] at hf; cases hf
      have := hm.cell (List.mem_of_getElem? hj) rfl k (.int .i64 x) (by
        unfold row
        rw [List.getElem?_append_left (by omega), show k = k * 1 + 0 by omega]
        exact hf)
      rwa [cell_put (hne _ (List.mem_of_getElem? hj))] at this
theorem back_St {w1 : World} {W1 : List Nat} {L : List Blk} {w w' : World} {b : Nat} {o o' : Obj} (hm : Mem w1 W1 L (w.putObj b o)) (ho : w.heap[b]? = some o') (hst : w' = w) : Mem w1 W1 L (w'.putObj b o) ∧ w'.heap[b]? = some o' := by
  subst hst; exact ⟨hm, ho⟩
theorem mem_one (w : World) (T : TypeId) (cs : List Value) : Mem w [] [⟨some w.heap.size, T, cs⟩] (w.alloc (.cells cs.toArray T)) := by
  refine ⟨rfl, rfl, rfl, Drw.of_le (Nat.le_refl _), by show _ ≤ (w.heap.push _).size; simp, fun b hb _ => ?_, ?_, by simp, ?_⟩
  · exact Go.RowKit.Below.heap_alloc w _ b hb
  · intro x hx b hb
    simp only [List.mem_singleton] at hx
    subst hx
    cases hb
    show (w.heap.push _)[w.heap.size]? = _
    simp
  · intro x hx b hb
    simp only [List.mem_singleton] at hx
    subst hx
    cases hb
    exact .inr (Nat.le_refl _)
end Go.Proofs.YtplklknkkaeniaaDoor.Eng
