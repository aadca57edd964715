/- The engine: a symbolic run of straight code by the model's own semantics, with known temporaries and known blocks. -/
import Derived.OrdersHeld
import Derived.KernelRfl
import Derived.Below
import Derived.Laws.StructEq
namespace Go.Proofs.YtplklknkkaeniaaGreatDoor.Eng
open Go
set_option linter.unusedSimpArgs false
set_option linter.unusedVariables false

/-- What is known of temporaries: number, guards under which it is known, value. Newest first. -/
abbrev Env := List (Nat × List (Nat × Bool) × Value)

structure Blk where
  b : Option Nat
  T : TypeId
  cs : List Value

def lk : Env → Nat → Option (List (Nat × Bool) × Value)
  | [], _ => none
  | (d, g, v) :: E, t => bif Nat.beq d t then some (g, v) else lk E t

/-- the guards g are all among h -/
def gsub (g h : List (Nat × Bool)) : Bool := g.all fun x => h.any fun y => Nat.beq x.1 y.1 && (x.2 == y.2)

def evo (E : Env) (G : List (Nat × Bool)) : Operand → Option Value
  | .tmp t => match lk E t with
    | some (g, v) => bif gsub g G then some v else none
    | none => none
  | .const v => some v
  | .global g => some (.pointer (some ⟨g, 0, none⟩))
  | .func f => some (.func (.func f) #[] #[])

def ev (E : Env) (G : List (Nat × Bool)) (x : Operand) : Value := (evo E G x).getD undef

/-- The next hint: a lone one serves for good. -/
def hnext : List Nat → Nat × List Nat
  | [] => (0, [])
  | [h] => (h, [h])
  | h :: t => (h, t)

/-- A run that only reads cells of known blocks (which ones: the hints); it tells what has to be equal. -/
def lRun (P : Program) (L : List Blk) {α : Type} : Sem α → List Nat → Option (α × List (Nat × Nat))
  | .pure a, _ => some (a, [])
  | .program k, hs => lRun P L (k P) hs
  | .load _ a k, hs => match a, L[(hnext hs).1]? with
    | ⟨b, off, none⟩, some ⟨some c, _, cs⟩ => match cs[off]? with
      | some v => match lRun P L (k v) (hnext hs).2 with
        | some r => some (r.1, (b, c) :: r.2)
        | none => none
      | none => none
    | _, _ => none
  | _, _ => none

theorem lRun_sound {P : Program} {L : List Blk} {w : World} (hw : ∀ x ∈ L, ∀ c, x.b = some c → ∀ off v, x.cs[off]? = some v → w.cell? ⟨c, off, none⟩ = some v) {α : Type} :
    ∀ (s : Sem α) (hs : List Nat) (r : α × List (Nat × Nat)), lRun P L s hs = some r → r.2.map (·.1) = r.2.map (·.2) → s.run P w = .ok r.1 w := by
  intro s
  induction s with
  | pure a => intro hs r h _; simp only [lRun, Option.some.injEq] at h; subst h; rfl
  | program k ih => intro hs r h hb; simp only [lRun] at h; simp only [Sem.run]; exact ih _ hs r h hb
  | load m a k ih =>
    intro hs r h hb
    unfold lRun at h
    split at h
    · rename_i b off c T cs hx
      split at h
      · rename_i v hv
        split at h
        · rename_i r' hr'
          simp only [Option.some.injEq] at h
          subst h
          simp only [List.map_cons, List.cons.injEq] at hb
          have h1 := hw _ (List.mem_of_getElem? hx) c rfl off v hv
          rw [← hb.1] at h1
          simp only [Sem.run, h1]
          exact ih v _ r' hr' hb.2
        · simp at h
      · simp at h
    · simp at h
  | _ => intro hs r h _; simp [lRun] at h

/-- whether the draws are counted: a parameter of all that follows (some contracts of the library say nothing of it) -/
class DrwS where
  S : Prop
instance (priority := low) drwAny : DrwS := ⟨False⟩
set_option linter.unusedSectionVars false
variable [dsW : DrwS]
/-- draws do not go back, where they are counted -/
def Drw (a b : Nat) : Prop := dsW.S → a ≤ b
theorem Drw.of_le {a b : Nat} (h : a ≤ b) : Drw a b := fun _ => h
theorem Drw.trans {a b c : Nat} (h : Drw a b) (k : Drw b c) : Drw a c := fun s => Nat.le_trans (h s) (k s)
theorem Drw.any (n : ¬ dsW.S) (a b : Nat) : Drw a b := fun s => absurd s n
/- (end of what draws are) -/
/-- What the memory is: below the first world's size nothing has turned but the blocks W; the known blocks. -/
structure Mem (w0 : World) (W : List Nat) (L : List Blk) (w : World) : Prop where
  os : w.os = w0.os
  tape : w.tape = w0.tape
  output : w.output = w0.output
  drw : Drw w0.drawn w.drawn
  size : w0.heap.size ≤ w.heap.size
  old : ∀ b, b < w0.heap.size → b ∉ W → w.heap[b]? = w0.heap[b]?
  own : ∀ x ∈ L, ∀ b, x.b = some b → w.heap[b]? = some (.cells x.cs.toArray x.T (0, 0))
  dis : (L.filterMap Blk.b).Nodup
  new : ∀ x ∈ L, ∀ b, x.b = some b → b ∈ W ∨ w0.heap.size ≤ b

theorem Mem.cell {w0 w : World} {W : List Nat} {L : List Blk} (h : Mem w0 W L w) {x : Blk} (hx : x ∈ L) {c : Nat} (hc : x.b = some c) (off : Nat) (v : Value)
    (hv : x.cs[off]? = some v) : w.cell? ⟨c, off, none⟩ = some v := by
  simp [World.cell?, h.own x hx c hc, hv]

/-- The state: the frame's size, the known temporaries, no deferred calls, the memory. -/
structure Ok (n : Nat) (w0 : World) (W : List Nat) (E : Env) (L : List Blk) (a : Act) (w : World) : Prop where
  sz : a.tmps.size = n
  df : a.defers = []
  env : ∀ t g v, lk E t = some (g, v) → (∀ x ∈ g, a.tmps.getD x.1 undef = .bool x.2) → a.tmps.getD t undef = v
  mem : Mem w0 W L w

omit dsW in
theorem gsub_spec {g h : List (Nat × Bool)} (hs : gsub g h = true) {p : Nat × Bool → Prop} (hh : ∀ x ∈ h, p x) : ∀ x ∈ g, p x := by
  intro x hx
  simp only [gsub, List.all_eq_true] at hs
  have := hs x hx
  simp only [List.any_eq_true, Bool.and_eq_true, beq_iff_eq] at this
  obtain ⟨y, hy, h1, h2⟩ := this
  have h1 : x.1 = y.1 := Nat.eq_of_beq_eq_true h1
  have : x = y := Prod.ext h1 h2
  exact this ▸ hh y hy

theorem evo_sound {n : Nat} {w0 : World} {W : List Nat} {E : Env} {L : List Blk} {a : Act} {w : World} (h : Ok n w0 W E L a w) {G : List (Nat × Bool)}
    (hG : ∀ x ∈ G, a.tmps.getD x.1 undef = .bool x.2) {x : Operand} {v : Value} (hx : evo E G x = some v) : a.eval x = v := by
  cases x with
  | tmp t =>
    simp only [evo] at hx
    split at hx
    · rename_i g u hl
      cases hg : gsub g G with
      | true => rw [hg] at hx; simp only [cond_true, Option.some.injEq] at hx; subst hx; exact h.env t g u hl (gsub_spec hg hG)
      | false => rw [hg] at hx; simp at hx
    · simp at hx
  | const u => simp only [evo, Option.some.injEq] at hx; exact hx
  | global g => simp only [evo, Option.some.injEq] at hx; exact hx
  | func f => simp only [evo, Option.some.injEq] at hx; exact hx

/-- every operand is known -/
def known (E : Env) (G : List (Nat × Bool)) (o : Op) : Bool := o.operands.all fun x => (evo E G x).isSome
def notSel : Op → Bool
  | .select .. => false
  | _ => true

theorem exec_known {n : Nat} {w0 : World} {W : List Nat} {E : Env} {L : List Blk} {a : Act} {w : World} (h : Ok n w0 W E L a w) {G : List (Nat × Bool)}
    (hG : ∀ x ∈ G, a.tmps.getD x.1 undef = .bool x.2) {o : Oper} (hk : known E G o.op = true) (hs : notSel o.op = true) :
    execOp a.eval o = execOp (ev E G) o := by
  apply execOp_congr o (fun cs b e => by rw [e] at hs; simp [notSel] at hs)
  intro x hx
  simp only [known, Array.all_eq_true_iff_forall_mem] at hk
  have := hk x hx
  obtain ⟨v, hv⟩ := Option.isSome_iff_exists.1 this
  rw [evo_sound h hG hv]; simp [ev, hv]


/-! ### a chunk of operations that yield a value and leave the world alone -/

/-- One step: the operation's number, the known block that its loads read, its guard: 0 none, 1 open, 2 known and wanted; 3 known and not wanted; 4, 5: a choice whose condition is known (true, false). -/
structure St where
  i : Nat
  h : Nat := 0
  m : Nat := 0

/-- no entry waits for the temporary d -/
def freeOf (E : Env) (d : Nat) : Bool := E.all fun e => e.2.1.all fun g => !(Nat.beq g.1 d)

def dstOf (ops : Array Oper) (j : Nat) : Option Nat := (ops[j]?).bind (·.dst)

structure Res where
  E : Env
  cn : List (Nat × Nat)
  cb : List (Bool × Bool)

/-! ### '==' of structs -/

def partV (P : Program) (T : TypeId) (cs : Array Value) (off : Nat) : Option Value :=
  match P.underlying T, P.info? T with
  | some d, some t => match d with
    | .struct _ => some (.agg (cs.extract off (off + t.size)))
    | .array _ _ => some (.agg (cs.extract off (off + t.size)))
    | _ => cs[off]?
  | _, _ => none

def eqFs (P : Program) (g : TypeId → Value → Value → Option Bool) (xs ys : Array Value) : List Field → Option Bool
  | [] => some true
  | f :: fs => bif f.name == "_" then none else match partV P f.type xs f.offset, partV P f.type ys f.offset with
    | some a, some b => match g f.type a b with
      | some r => match fs with
        | [] => some r
        | _ => match eqFs P g xs ys fs with
          | some s => some (r && s)
          | none => none
      | none => none
    | _, _ => none

def eqV (P : Program) : Nat → TypeId → Value → Value → Option Bool
  | 0, _, _, _ => none
  | d + 1, t, x, y => match P.underlying t with
    | some .bool => match x, y with
      | .bool a, .bool b => some (a == b)
      | _, _ => none
    | some (.int _) => match x, y with
      | .int k a, .int k' b => if k = k' then some (a == b) else none
      | _, _ => none
    | some .string => match x, y with
      | .string a, .string b => some (a.toList == b.toList)
      | _, _ => none
    | some (.struct fs) => match x, y with
      | .agg xs, .agg ys => bif P.stoodInHeld t then none else eqFs P (eqV P d) xs ys fs.toList
      | _, _ => none
    | _ => none

omit dsW in
theorem partV_sound {P : Program} {T : TypeId} {cs : Array Value} {off : Nat} {v : Value} (h : partV P T cs off = some v) (w : World) : (part T cs off).run P w = .ok v w := by
  unfold partV at h
  split at h
  · rename_i d t hd ht
    have hs : (sizeOf T).run P w = .ok t.size w := by simp [sizeOf, typeInfo, program, Sem.run, ht]
    have hu : ∀ w, (underlying T).run P w = .ok d w := by intro w; simp [underlying, program, Sem.run, hd]
    unfold part isAgg
    split at h
    · simp only [Option.some.injEq] at h; subst h; simp [hu, hs]
    · simp only [Option.some.injEq] at h; subst h; simp [hu, hs]
    · rename_i h1 h2
      have : (isAgg T).run P w = .ok false w := by
        unfold isAgg
        simp only [Sem.run_bind, hu, Result.andThen_ok]
        cases d <;> first | rfl | exact absurd rfl (h1 _) | exact absurd rfl (h2 _ _)
      unfold isAgg at this
      simp only [Sem.run_bind, this, Result.andThen_ok, Bool.false_eq_true, if_false, h]
      simp
  · cases h

omit dsW in
theorem eqFs_sound {P : Program} {d : Nat} {g : TypeId → Value → Value → Option Bool} {xs ys : Array Value} {w : World}
    (hg : ∀ t a b r, g t a b = some r → (Op.equalIn d t a b).run P w = .ok r w) : ∀ (fs : List Field) (r : Bool), eqFs P g xs ys fs = some r → (Op.eqFields d xs ys fs).run P w = .ok r w := by
  intro fs
  induction fs with
  | nil => intro r h; simp only [eqFs, Option.some.injEq] at h; subst h; simp [Op.eqFields]
  | cons f fs ih =>
    intro r h
    unfold eqFs at h
    cases hn : (f.name == "_") with
    | true => rw [hn] at h; simp at h
    | false =>
      rw [hn] at h
      simp only [cond_false] at h
      have hn' : f.name ≠ "_" := by simpa using hn
      split at h
      · rename_i a b ha hb
        have ha := partV_sound ha w
        have hb := partV_sound hb w
        split at h
        · rename_i q hq
          have he := hg _ _ _ _ hq
          rw [Op.eqFields]
          simp only [if_pos hn', Sem.run_bind, ha, hb, he, Result.andThen_ok]
          split at h
          · simp only [Option.some.injEq] at h
            subst h
            cases q <;> simp [Op.eqFields]
          · split at h
            · rename_i s hs
              simp only [Option.some.injEq] at h
              subst h
              have := ih _ hs
              cases q
              · simp
              · simpa using this
            · cases h
        · cases h
      · cases h

omit dsW in
theorem eqV_sound {P : Program} {w : World} : ∀ (d : Nat) (t : TypeId) (x y : Value) (r : Bool), eqV P d t x y = some r → ∀ D, d ≤ D → (Op.equalIn D t x y).run P w = .ok r w := by
  intro d
  induction d with
  | zero => intro t x y r h; simp [eqV] at h
  | succ d ih =>
    intro t x y r h D hD
    obtain ⟨D, rfl⟩ : ∃ k, D = k + 1 := ⟨D - 1, by omega⟩
    unfold eqV at h
    split at h
    · rename_i hu
      split at h
      · simp only [Option.some.injEq] at h; subst h; exact run_equalIn_bool' w D t _ _ hu
      · cases h
    · rename_i k0 hu
      split at h
      · rename_i k a k' b
        by_cases hk : k = k'
        · subst hk
          simp only [if_true, Option.some.injEq] at h; subst h
          exact run_equalIn_int w D t _ _ _ _ hu
        · simp [hk] at h
      · cases h
    · rename_i hu
      split at h
      · simp only [Option.some.injEq] at h; subst h; exact run_equalIn_string w D t _ _ hu
      · cases h
    · rename_i fs hu
      split at h
      · rename_i xs ys
        cases hp : P.stoodInHeld t with
        | true => rw [hp] at h; simp at h
        | false =>
          rw [hp] at h
          simp only [cond_false] at h
          have hf : P.fieldsOf t = fs := by simp [Program.fieldsOf, hu]
          rw [run_equalIn_struct (P := P) w D t xs ys (by rw [hf]; exact hu) hp, hf]
          exact eqFs_sound (fun t a b r hr => ih t a b r hr D (by omega)) _ _ h
      · cases h
    · cases h

def eqQ (P : Program) (E : Env) (G : List (Nat × Bool)) : Op → Option Bool
  | .binOp .eql t x y _ => match evo E G x, evo E G y with
    | some (.agg xs), some (.agg ys) => bif P.eqGuardType P.depth t then none else eqV P 8 t (.agg xs) (.agg ys)
    | _, _ => none
  | .binOp .neq t x y _ => match evo E G x, evo E G y with
    | some (.agg xs), some (.agg ys) => bif P.eqGuardType P.depth t then none else (eqV P 8 t (.agg xs) (.agg ys)).map not
    | _, _ => none
  | _ => none

omit dsW in
theorem eqQ_sound {P : Program} {E : Env} {G : List (Nat × Bool)} {o : Oper} {b : Bool} (h : eqQ P E G o.op = some b) (w : World) : (execOp (ev E G) o).run P w = .ok (.value (.bool b)) w := by
  unfold eqQ at h
  split at h
  · rename_i t x y yt ho
    split at h
    · rename_i xs ys hx hy
      cases hg : P.eqGuardType P.depth t with
      | true => rw [hg] at h; simp at h
      | false =>
        rw [hg] at h
        simp only [cond_false] at h
        have ex : ev E G x = .agg xs := by simp [ev, hx]
        have ey : ev E G y = .agg ys := by simp [ev, hy]
        simp only [execOp, ho, ex, ey, Sem.run_bind, run_eqGuard_agg (P := P) w .eql t x y xs ys hg, Result.andThen_ok, run_eql_struct (P := P) w t xs ys, eqV_sound 8 t _ _ b h 10000 (by decide)]
        rfl
    · cases h
  · rename_i t x y yt ho
    split at h
    · rename_i xs ys hx hy
      cases hg : P.eqGuardType P.depth t with
      | true => rw [hg] at h; simp at h
      | false =>
        rw [hg] at h
        simp only [cond_false, Option.map_eq_some_iff] at h
        obtain ⟨b', h, rfl⟩ := h
        have ex : ev E G x = .agg xs := by simp [ev, hx]
        have ey : ev E G y = .agg ys := by simp [ev, hy]
        simp only [execOp, ho, ex, ey, Sem.run_bind, run_eqGuard_agg (P := P) w .neq t x y xs ys hg, Result.andThen_ok, run_neq_struct (P := P) w t xs ys, eqV_sound 8 t _ _ b' h 10000 (by decide)]
        rfl
    · cases h
  · cases h

def valF (P : Program) (E : Env) (L : List Blk) (G : List (Nat × Bool)) (o : Oper) (h : Nat) : Option (Value × List (Nat × Nat)) :=
  bif known E G o.op && notSel o.op then
    match eqQ P E G o.op with
    | some b => some (.bool b, [])
    | none => match lRun P L (execOp (ev E G) o) [h] with
      | some (.value v, cn) => some (v, cn)
      | _ => none
  else none

def pickF (E : Env) (G : List (Nat × Bool)) : Op → Option Value
  | .pick (.tmp c) x y => match evo E G (.tmp c), evo E ((c, true) :: G) x, evo E ((c, false) :: G) y with
    | some (.bool b), some (.bool p), some (.bool q) => some (.bool (cond b p q))
    | _, _, _ => none
  | _ => none

def isPick : Op → Bool
  | .pick (.tmp _) _ _ => true
  | _ => false

def guardF (ops : Array Oper) (E : Env) (o : Oper) (m : Nat) : Option (List (Nat × Bool) × List (Bool × Bool)) :=
  match o.guard, m with
  | none, 0 => some ([], [])
  | none, 4 => some ([], [])
  | none, 5 => some ([], [])
  | some (j, want), 1 => match dstOf ops j with
    | some d => some ([(d, want)], [])
    | none => none
  | some (j, want), 2 => match dstOf ops j with
    | some d => match evo E [] (.tmp d) with
      | some (.bool b) => some ([], [(b, want)])
      | _ => none
    | none => none
  | some (j, want), 4 => match dstOf ops j with
    | some d => match evo E [] (.tmp d) with
      | some (.bool b) => some ([], [(b, want)])
      | _ => none
    | none => none
  | some (j, want), 5 => match dstOf ops j with
    | some d => match evo E [] (.tmp d) with
      | some (.bool b) => some ([], [(b, want)])
      | _ => none
    | none => none
  | _, _ => none

def putF (n : Nat) (E : Env) (G : List (Nat × Bool)) (dst : Option Nat) (v : Value) : Option Env :=
  match dst with
  | some d => bif Nat.blt d n && freeOf E d && G.all (fun g => !(Nat.beq g.1 d)) then some ((d, G, v) :: E) else none
  | none => none

def stepF (P : Program) (n : Nat) (ops : Array Oper) (L : List Blk) (s : St) (E : Env) : Option Res :=
  match ops[s.i]? with
  | none => none
  | some o => match guardF ops E o s.m with
    | none => none
    | some (G, cb) =>
      match o.op, s.m with
      | .pick c x _, 4 => match evo E G c, evo E G x with
        | some (.bool b), some v => (putF n E G o.dst v).map fun E' => ⟨E', [], (b, true) :: cb⟩
        | _, _ => none
      | .pick c _ y, 5 => match evo E G c, evo E G y with
        | some (.bool b), some v => (putF n E G o.dst v).map fun E' => ⟨E', [], (b, false) :: cb⟩
        | _, _ => none
      | op, _ => bif isPick op then
          match pickF E G op with
          | some v => (putF n E G o.dst v).map fun E' => ⟨E', [], cb⟩
          | none => none
        else match valF P E L G o s.h with
          | some (v, cn) => (putF n E G o.dst v).map fun E' => ⟨E', cn, cb⟩
          | none => none

/-- what a guard's temporary tells: that it is not as wanted (one that was passed by itself is not, either) -/
def skb (v : Value) (want : Bool) : Option (List (Bool × Bool)) := match v with
  | .bool b => some [(b, !want)]
  | .tuple _ => some []
  | _ => none

/-- a guard known and not wanted: the operation is passed by -/
def skipF (n : Nat) (ops : Array Oper) (s : St) (E : Env) : Option Res :=
  match ops[s.i]? with
  | none => none
  | some o => match o.guard, o.dst with
    | some (j, want), some d => match dstOf ops j with
      | some e => match (evo E [] (.tmp e)).bind (skb · want) with
        | some cb => bif Nat.blt d n && freeOf E d then some ⟨(d, [], undef) :: E, [], cb⟩ else none
        | none => none
      | none => none
    | some (j, want), none => match dstOf ops j with
      | some e => match (evo E [] (.tmp e)).bind (skb · want) with
        | some cb => some ⟨E, [], cb⟩
        | none => none
      | none => none
    | _, _ => none

def oneF (P : Program) (n : Nat) (ops : Array Oper) (L : List Blk) (s : St) (E : Env) : Option Res :=
  bif Nat.beq s.m 3 then skipF n ops s E else stepF P n ops L s E

def chunk (P : Program) (n : Nat) (ops : Array Oper) (L : List Blk) : List St → Env → Option Res
  | [], E => some ⟨E, [], []⟩
  | s :: l, E => match oneF P n ops L s E with
    | some r => match chunk P n ops L l r.E with
      | some q => some ⟨q.E, r.cn ++ q.cn, r.cb ++ q.cb⟩
      | none => none
    | none => none

def cl : Option Res → Option (List Nat × List Bool)
  | some r => some (r.cn.map (·.1), r.cb.map (·.1))
  | none => some ([0], [])
def cr : Option Res → Option (List Nat × List Bool)
  | some r => some (r.cn.map (·.2), r.cb.map (·.2))
  | none => none
def gE : Option Res → Env
  | some r => r.E
  | none => []


omit dsW in
theorem blt {d n : Nat} (h : Nat.blt d n = true) : d < n := by rwa [Nat.blt_eq] at h

section sound
variable {P : Program} {Q : Exit → Act → World → Prop} {n : Nat} {w0 : World} {W : List Nat} {E : Env} {L : List Blk} {ops : Array Oper}

omit dsW in
theorem getD_set {t : Array Value} {d e : Nat} {v u : Value} : (t.setIfInBounds d v).getD e u = if d = e ∧ d < t.size then v else t.getD e u := by
  by_cases h : d = e
  · subst h
    by_cases hd : d < t.size
    · simp [hd]
    · simp [hd]
  · have : (t.setIfInBounds d v)[e]? = t[e]? := by rw [Array.getElem?_setIfInBounds]; simp [h]
    simp [Array.getD_eq_getD_getElem?, this, h]

theorem Ok.put {a : Act} {w : World} (h : Ok n w0 W E L a w) {d : Nat} (hd : d < n) (hf : freeOf E d = true) {G : List (Nat × Bool)}
    (hG : ∀ x ∈ G, x.1 ≠ d) {v u : Value} (hv : (∀ x ∈ G, a.tmps.getD x.1 undef = .bool x.2) → u = v) :
    Ok n w0 W ((d, G, v) :: E) L (a.put (some d) u) w := by
  refine ⟨by simp [Act.put, h.sz], by simp [Act.put, h.df], ?_, h.mem⟩
  intro t g x hl hg
  simp only [lk] at hl
  simp only [Act.put, getD_set, h.sz, hd, and_true] at hg ⊢
  by_cases e : d = t
  · subst e
    simp only [Nat.beq_refl, cond_true, Option.some.injEq, Prod.mk.injEq] at hl
    obtain ⟨rfl, rfl⟩ := hl
    simp only [if_true]
    refine hv fun y hy => ?_
    have := hg y hy
    rwa [if_neg (fun e => hG y hy e.symm)] at this
  · have hb : Nat.beq d t = false := by
      cases hq : Nat.beq d t with
      | false => rfl
      | true => exact absurd (Nat.eq_of_beq_eq_true hq) e
    rw [hb] at hl
    simp only [cond_false] at hl
    rw [if_neg e]
    refine h.env t g x hl fun y hy => ?_
    have h1 := hg y hy
    have hne : d ≠ y.1 := by
      intro he
      have hmem : ∃ e' ∈ E, e'.2.1 = g := by
        clear hg h1 hf h hv hb
        induction E with
        | nil => simp [lk] at hl
        | cons e' E ih =>
          obtain ⟨d', g', v'⟩ := e'
          simp only [lk] at hl
          cases hq : Nat.beq d' t with
          | true => rw [hq] at hl; simp only [cond_true, Option.some.injEq, Prod.mk.injEq] at hl; exact ⟨(d', g', v'), by simp, hl.1⟩
          | false => rw [hq] at hl; simp only [cond_false] at hl; obtain ⟨e'', h1, h2⟩ := ih hl; exact ⟨e'', by simp [h1], h2⟩
      obtain ⟨e', he', hge⟩ := hmem
      simp only [freeOf, List.all_eq_true, Bool.not_eq_true'] at hf
      have := hf e' he' y (hge ▸ hy)
      rw [he] at this
      simp at this
    rwa [if_neg hne] at h1

omit dsW in
theorem yielded_bool {a : Act} {j d : Nat} {b : Bool} (hj : dstOf ops j = some d) (hd : d < a.tmps.size) : yielded ops a.tmps j = some b ↔ a.tmps.getD d undef = .bool b := by
  simp only [yielded]
  simp only [dstOf] at hj
  rw [hj]
  simp only [Option.bind_some, Array.getD_eq_getD_getElem?, Array.getElem?_eq_getElem hd, Option.getD_some]
  cases a.tmps[d] <;> simp

omit dsW in
theorem getD_bool_lt {t : Array Value} {d : Nat} {b : Bool} (h : t.getD d undef = .bool b) : d < t.size := by
  rcases Nat.lt_or_ge d t.size with h' | h'
  · exact h'
  · simp [Array.getD_eq_getD_getElem?, Array.getElem?_eq_none h', undef] at h

/-- what a guard says -/
theorem guard_sound {a : Act} {w : World} (h : Ok n w0 W E L a w) {o : Oper} {m : Nat} {G : List (Nat × Bool)} {cb : List (Bool × Bool)}
    (hg : guardF ops E o m = some (G, cb)) (hb : cb.map (·.1) = cb.map (·.2)) :
    (Region.wanted o (yielded ops a.tmps) = true ↔ ∀ x ∈ G, a.tmps.getD x.1 undef = .bool x.2) := by
  unfold guardF at hg
  unfold Region.wanted
  split at hg
  · rename_i e; simp only [Option.some.injEq, Prod.mk.injEq] at hg; obtain ⟨rfl, rfl⟩ := hg; simp [e]
  · rename_i e; simp only [Option.some.injEq, Prod.mk.injEq] at hg; obtain ⟨rfl, rfl⟩ := hg; simp [e]
  · rename_i e; simp only [Option.some.injEq, Prod.mk.injEq] at hg; obtain ⟨rfl, rfl⟩ := hg; simp [e]
  · rename_i j want e
    split at hg
    · rename_i d hd
      simp only [Option.some.injEq, Prod.mk.injEq] at hg
      obtain ⟨rfl, rfl⟩ := hg
      simp only [e, List.mem_singleton, forall_eq, beq_iff_eq]
      rcases Nat.lt_or_ge d a.tmps.size with h' | h'
      · exact yielded_bool hd h'
      · constructor
        · intro hy
          simp only [yielded] at hy
          simp only [dstOf] at hd
          rw [hd] at hy
          simp [Array.getElem?_eq_none h'] at hy
        · intro hy; exact absurd (getD_bool_lt hy) (by omega)
    · simp at hg
  · rename_i j want e
    split at hg
    · rename_i d hd
      split at hg
      · rename_i b hv
        simp only [Option.some.injEq, Prod.mk.injEq] at hg
        obtain ⟨rfl, rfl⟩ := hg
        simp only [List.map_cons, List.map_nil, List.cons.injEq, and_true] at hb
        subst hb
        have := evo_sound h (G := []) (by simp) hv
        simp only [Act.eval] at this
        have hy := (yielded_bool (b := b) hd (getD_bool_lt this)).2 this
        simp [e, hy]
      · simp at hg
    · simp at hg
  · rename_i j want e
    split at hg
    · rename_i d hd
      split at hg
      · rename_i b hv
        simp only [Option.some.injEq, Prod.mk.injEq] at hg
        obtain ⟨rfl, rfl⟩ := hg
        simp only [List.map_cons, List.map_nil, List.cons.injEq, and_true] at hb
        subst hb
        have := evo_sound h (G := []) (by simp) hv
        simp only [Act.eval] at this
        have hy := (yielded_bool (b := b) hd (getD_bool_lt this)).2 this
        simp [e, hy]
      · simp at hg
    · simp at hg
  · rename_i j want e
    split at hg
    · rename_i d hd
      split at hg
      · rename_i b hv
        simp only [Option.some.injEq, Prod.mk.injEq] at hg
        obtain ⟨rfl, rfl⟩ := hg
        simp only [List.map_cons, List.map_nil, List.cons.injEq, and_true] at hb
        subst hb
        have := evo_sound h (G := []) (by simp) hv
        simp only [Act.eval] at this
        have hy := (yielded_bool (b := b) hd (getD_bool_lt this)).2 this
        simp [e, hy]
      · simp at hg
    · simp at hg
  · simp at hg

omit dsW in
theorem wpOp_value {a : Act} {w : World} {i : Nat} {o : Oper} {K : Act → World → Prop} {v : Value} (ho : ops[i]? = some o)
    (hr : Region.wanted o (yielded ops a.tmps) = true → (execOp a.eval o).run P w = .ok (.value v) w)
    (hy : Region.wanted o (yielded ops a.tmps) = true → K (a.put o.dst v) w)
    (hn : Region.wanted o (yielded ops a.tmps) = false → K (a.put o.dst undef) w) : wpOp P ops Q i K a w := by
  unfold wpOp
  simp only [ho]
  cases hw : Region.wanted o (yielded ops a.tmps) with
  | true => simp only [if_true]; exact .inl (by unfold Oper.wp; rw [hr hw]; exact hy hw)
  | false => simp only [Bool.false_eq_true, if_false]; exact hn hw

theorem valF_sound {a : Act} {w : World} (h : Ok n w0 W E L a w) {G : List (Nat × Bool)} {o : Oper} {hh : Nat} {v : Value} {cn : List (Nat × Nat)}
    (hv : valF P E L G o hh = some (v, cn)) (hc : cn.map (·.1) = cn.map (·.2)) (hG : ∀ x ∈ G, a.tmps.getD x.1 undef = .bool x.2) :
    (execOp a.eval o).run P w = .ok (.value v) w := by
  unfold valF at hv
  cases hk : (known E G o.op && notSel o.op) with
  | false => rw [hk] at hv; simp at hv
  | true =>
    rw [hk] at hv
    simp only [cond_true] at hv
    simp only [Bool.and_eq_true] at hk
    rw [exec_known h hG hk.1 hk.2]
    split at hv
    · rename_i b hb
      simp only [Option.some.injEq, Prod.mk.injEq] at hv
      obtain ⟨rfl, rfl⟩ := hv
      exact eqQ_sound hb w
    · split at hv
      · rename_i v' cn' hl
        simp only [Option.some.injEq, Prod.mk.injEq] at hv
        obtain ⟨rfl, rfl⟩ := hv
        exact lRun_sound (fun x hx c hc off u hu => h.mem.cell hx hc off u hu) _ _ _ hl hc
      · simp at hv

theorem pickF_sound {a : Act} {w : World} (h : Ok n w0 W E L a w) {G : List (Nat × Bool)} {o : Oper} {v : Value}
    (hv : pickF E G o.op = some v) (hG : ∀ x ∈ G, a.tmps.getD x.1 undef = .bool x.2) : (execOp a.eval o).run P w = .ok (.value v) w := by
  unfold pickF at hv
  split at hv
  · rename_i c x y ho
    split at hv
    · rename_i b p q h1 h2 h3
      simp only [Option.some.injEq] at hv
      subst hv
      have e1 := evo_sound h hG h1
      have hc : a.tmps.getD c undef = .bool b := e1
      simp only [execOp, ho, e1, asBool]
      cases b with
      | true =>
        have e2 := evo_sound h (G := (c, true) :: G) (by intro z hz; rcases List.mem_cons.1 hz with rfl | hz; exact hc; exact hG z hz) h2
        simp [e2, bind, Sem.bind, pure]
      | false =>
        have e3 := evo_sound h (G := (c, false) :: G) (by intro z hz; rcases List.mem_cons.1 hz with rfl | hz; exact hc; exact hG z hz) h3
        simp [e3, bind, Sem.bind, pure]
    · simp at hv
  · simp at hv

theorem putF_sound {a : Act} {w : World} (h : Ok n w0 W E L a w) {G : List (Nat × Bool)} {dst : Option Nat} {v : Value} {E' : Env}
    (hp : putF n E G dst v = some E') {u : Value} (hu : (∀ x ∈ G, a.tmps.getD x.1 undef = .bool x.2) → u = v) :
    Ok n w0 W E' L (a.put dst u) w := by
  unfold putF at hp
  split at hp
  · rename_i d
    cases hc : (Nat.blt d n && freeOf E d && G.all (fun g => !(Nat.beq g.1 d))) with
    | false => rw [hc] at hp; simp at hp
    | true =>
      rw [hc] at hp
      simp only [cond_true, Option.some.injEq] at hp
      subst hp
      simp only [Bool.and_eq_true] at hc
      refine h.put (blt hc.1.1) hc.1.2 ?_ hu
      intro x hx he
      have := List.all_eq_true.1 hc.2 x hx
      rw [he] at this
      simp at this
  · simp at hp

theorem skb_sound {n : Nat} {w0 : World} {W : List Nat} {E : Env} {L : List Blk} {ops : Array Oper} {a : Act} {w : World} (h : Ok n w0 W E L a w) {o : Oper} {j e : Nat} {want : Bool} {cb : List (Bool × Bool)} (hg : o.guard = some (j, want)) (he : dstOf ops j = some e)
    (hv : (evo E [] (.tmp e)).bind (skb · want) = some cb) (hb : cb.map (·.1) = cb.map (·.2)) : Region.wanted o (yielded ops a.tmps) = false := by
  obtain ⟨v, hv, hs⟩ := Option.bind_eq_some_iff.1 hv
  have ht := evo_sound h (G := []) (by simp) hv
  simp only [Act.eval] at ht
  unfold skb at hs
  split at hs
  · rename_i b
    simp only [Option.some.injEq] at hs
    subst hs
    simp only [List.map_cons, List.map_nil, List.cons.injEq, and_true] at hb
    have hy := (yielded_bool (b := b) he (getD_bool_lt ht)).2 ht
    simp only [Region.wanted, hg, hy, hb]
    cases want <;> rfl
  · rename_i c
    have hy : yielded ops a.tmps j = none := by
      simp only [yielded]
      simp only [dstOf] at he
      rw [he]
      simp only [Option.bind_some]
      cases hx : a.tmps[e]? with
      | none => rfl
      | some u =>
        rw [Array.getD_eq_getD_getElem?, hx] at ht
        simp only [Option.getD_some] at ht
        subst ht
        rfl
    simp [Region.wanted, hg, hy]
  · cases hs

theorem oneF_sound {a : Act} {w : World} (h : Ok n w0 W E L a w) {s : St} {r : Res} (hs : oneF P n ops L s E = some r)
    (hn : r.cn.map (·.1) = r.cn.map (·.2)) (hb : r.cb.map (·.1) = r.cb.map (·.2)) {K : Act → World → Prop}
    (hk : ∀ a', Ok n w0 W r.E L a' w → K a' w) : wpOp P ops Q s.i K a w := by
  unfold oneF at hs
  cases hm : Nat.beq s.m 3 with
  | true =>
    rw [hm] at hs
    simp only [cond_true] at hs
    unfold skipF at hs
    split at hs
    · simp at hs
    · rename_i o ho
      split at hs
      · rename_i j want d hg hd
        split at hs
        · rename_i e he
          split at hs
          · rename_i b hv
            cases hc : (Nat.blt d n && freeOf E d) with
            | false => rw [hc] at hs; simp at hs
            | true =>
              rw [hc] at hs
              simp only [cond_true, Option.some.injEq] at hs
              subst hs
              have hw := skb_sound h hg he hv hb
              unfold wpOp
              simp only [ho, hw, Bool.false_eq_true, if_false]
              simp only [Bool.and_eq_true] at hc
              rw [hd]
              exact hk _ (h.put (blt hc.1) hc.2 (by simp) (fun _ => rfl))
          · simp at hs
        · simp at hs
      · rename_i j want hg hd
        split at hs
        · rename_i e he
          split at hs
          · rename_i b hv
            simp only [Option.some.injEq] at hs
            subst hs
            have hw := skb_sound h hg he hv hb
            unfold wpOp
            simp only [ho, hw, Bool.false_eq_true, if_false]
            rw [hd]
            exact hk _ h
          · simp at hs
        · simp at hs
      · simp at hs
  | false =>
    rw [hm] at hs
    simp only [cond_false] at hs
    unfold stepF at hs
    split at hs
    · simp at hs
    · rename_i o ho
      split at hs
      · simp at hs
      · rename_i G cb hg
        have fin : ∀ (v : Value) (E' : Env), cb.map (·.1) = cb.map (·.2) → putF n E G o.dst v = some E' →
            ((∀ x ∈ G, a.tmps.getD x.1 undef = .bool x.2) → (execOp a.eval o).run P w = .ok (.value v) w) →
            (∀ a', Ok n w0 W E' L a' w → K a' w) → wpOp P ops Q s.i K a w := by
          intro v E' hcb hp hr hkk
          have hG := guard_sound h hg hcb
          refine wpOp_value (v := v) ho (fun hw => hr (hG.1 hw)) (fun _ => hkk _ (putF_sound h hp (fun _ => rfl))) (fun hw => hkk _ (putF_sound h hp ?_))
          intro hall
          have := hG.2 hall
          rw [hw] at this
          cases this
        split at hs
        · rename_i c x y hop _
          split at hs
          · rename_i b v h1 h2
            simp only [Option.map_eq_some_iff] at hs
            obtain ⟨E', hp, rfl⟩ := hs
            simp only [List.map_cons, List.cons.injEq] at hb
            refine fin v E' hb.2 hp ?_ hk
            intro hall
            have e1 := evo_sound h hall h1
            have e2 := evo_sound h hall h2
            simp [execOp, hop, e1, e2, hb.1, asBool, bind, Sem.bind, pure]
          · simp at hs
        · rename_i c x y hop _
          split at hs
          · rename_i b v h1 h2
            simp only [Option.map_eq_some_iff] at hs
            obtain ⟨E', hp, rfl⟩ := hs
            simp only [List.map_cons, List.cons.injEq] at hb
            refine fin v E' hb.2 hp ?_ hk
            intro hall
            have e1 := evo_sound h hall h1
            have e2 := evo_sound h hall h2
            simp [execOp, hop, e1, e2, hb.1, asBool, bind, Sem.bind, pure]
          · simp at hs
        · cases hpk : isPick o.op with
          | true =>
            rw [hpk] at hs
            simp only [cond_true] at hs
            split at hs
            · rename_i v hv
              simp only [Option.map_eq_some_iff] at hs
              obtain ⟨E', hp, rfl⟩ := hs
              exact fin v E' hb hp (fun hall => pickF_sound h hv hall) hk
            · simp at hs
          | false =>
            rw [hpk] at hs
            simp only [cond_false] at hs
            split at hs
            · rename_i v cn hv
              simp only [Option.map_eq_some_iff] at hs
              obtain ⟨E', hp, rfl⟩ := hs
              exact fin v E' hb hp (fun hall => valF_sound h hv hn hall) hk
            · simp at hs

end sound

/-! ### judgements -/

class NoP (Q : Exit → Act → World → Prop) : Prop where
  no : ∀ c a d v w, Q (.panic c) (Act.put a d v) w → Q (.panic c) a w

section judge
variable (P : Program) (n : Nat) (w0 : World) (W : List Nat)

def JC (c : Code) (E : Env) (L : List Blk) (Q : Exit → Act → World → Prop) : Prop := ∀ a w, Ok n w0 W E L a w → c.wp P Q a w
def JX (e : Exit) (E : Env) (L : List Blk) (Q : Exit → Act → World → Prop) : Prop := ∀ a w, Ok n w0 W E L a w → Q e a w
/-- the operations from number k on, in the order of the text -/
def JO (ops : Array Oper) (k : Nat) (E : Env) (L : List Blk) (Q : Exit → Act → World → Prop) : Prop :=
  ∀ a w, Ok n w0 W E L a w → wpOps P ops Q ((List.range ops.size).drop k) a w

def listed (ops : Array Oper) : List Nat → Array Bool
  | [] => Array.replicate ops.size false
  | i :: l => (listed ops l).setIfInBounds i true

/-- a region that draws its order: 'done' have come up; the blocks Ls hold throughout -/
def JD (ops : Array Oper) (Ls : List Blk) (done : List Nat) (fuel : Nat) (E : Env) (L : List Blk) (Q : Exit → Act → World → Prop) : Prop :=
  ∀ a w, Ok n w0 W E L a w → wpAnyH P .any ops Q (Mem w0 W Ls) fuel (listed ops done) a w

/-- what one operation that does more than yield comes to -/
def OC (o : Oper) (E : Env) (L : List Blk) (C : (Env → List Blk → Prop) → Prop) : Prop :=
  ∀ (Kp : Env → List Blk → Prop), C Kp → ∀ (Q : Exit → Act → World → Prop) a w, Ok n w0 W E L a w → ∀ K : Act → World → Prop,
    (∀ E' L', Kp E' L' → ∀ a' w', Ok n w0 W E' L' a' w' → K a' w') → o.wp P a w K Q

end judge

section judge2
variable (P : Program) (n : Nat) (w0 : World) (W : List Nat)
/-- what is behind an operation -/
def JK (K : Act → World → Prop) (E : Env) (L : List Blk) : Prop := ∀ a w, Ok n w0 W E L a w → K a w
/-- an operation, and what is behind it -/
def JP (ops : Array Oper) (k : Nat) (K : Act → World → Prop) (E : Env) (L : List Blk) (Q : Exit → Act → World → Prop) : Prop := ∀ a w, Ok n w0 W E L a w → wpOp P ops Q k K a w
end judge2

section rules
variable {P : Program} {n : Nat} {w0 : World} {W : List Nat} {Q : Exit → Act → World → Prop} {E : Env} {L : List Blk} {ops : Array Oper}

omit dsW in
theorem range_drop {k m : Nat} (h : k < m) : (List.range m).drop k = k :: (List.range m).drop (k + 1) := by
  rw [List.drop_eq_getElem_cons (by simpa using h)]; simp

omit dsW in
theorem getElem?_lt {o : Oper} {k : Nat} (h : ops[k]? = some o) : k < ops.size := by
  rcases Nat.lt_or_ge k ops.size with h' | h'
  · exact h'
  · simp [Array.getElem?_eq_none h'] at h

theorem jo_op {k : Nat} {o : Oper} (ho : ops[k]? = some o) {E' : Env} {L' : List Blk}
    (h : ∀ a w, Ok n w0 W E L a w → ∀ K : Act → World → Prop, (∀ a' w', Ok n w0 W E' L' a' w' → K a' w') → wpOp P ops Q k K a w)
    (hk : JO P n w0 W ops (k + 1) E' L' Q) : JO P n w0 W ops k E L Q := by
  intro a w hok
  rw [range_drop (getElem?_lt ho), wpOps_cons]
  exact h a w hok _ hk

/-- the numbers of a chunk's steps: k, k + 1, .. -/
def steps (k : Nat) : List (Nat × Nat) → List St
  | [] => []
  | (h, m) :: l => ⟨k, h, m⟩ :: steps (k + 1) l

omit dsW in
theorem oneF_some {s : St} {r : Res} (h : oneF P n ops L s E = some r) : s.i < ops.size := by
  unfold oneF at h
  cases hm : Nat.beq s.m 3 with
  | true =>
    rw [hm] at h
    simp only [cond_true] at h
    unfold skipF at h
    split at h
    · simp at h
    · rename_i ho; exact getElem?_lt ho
  | false =>
    rw [hm] at h
    simp only [cond_false] at h
    unfold stepF at h
    split at h
    · simp at h
    · rename_i ho; exact getElem?_lt ho

omit dsW in
theorem cl_cons {s : St} {l : List St} (h : cl (chunk P n ops L (s :: l) E) = cr (chunk P n ops L (s :: l) E)) :
    ∃ r, oneF P n ops L s E = some r ∧ r.cn.map (·.1) = r.cn.map (·.2) ∧ r.cb.map (·.1) = r.cb.map (·.2) ∧
      cl (chunk P n ops L l r.E) = cr (chunk P n ops L l r.E) ∧ gE (chunk P n ops L (s :: l) E) = gE (chunk P n ops L l r.E) := by
  simp only [chunk] at h ⊢
  cases h1 : oneF P n ops L s E with
  | none => rw [h1] at h; simp [cl, cr] at h
  | some r =>
    rw [h1] at h
    simp only at h ⊢
    cases h2 : chunk P n ops L l r.E with
    | none => rw [h2] at h; simp [cl, cr] at h
    | some q =>
      rw [h2] at h
      simp only [cl, cr, List.map_append, Option.some.injEq, Prod.mk.injEq] at h
      have e1 := List.append_inj h.1 (by simp)
      have e2 := List.append_inj h.2 (by simp)
      exact ⟨r, rfl, e1.1, e2.1, by simp [h2, cl, cr, e1.2, e2.2], by simp [h2, gE]⟩

theorem jo_f : ∀ (l : List (Nat × Nat)) {k : Nat} {E : Env}, cl (chunk P n ops L (steps k l) E) = cr (chunk P n ops L (steps k l) E) →
    JO P n w0 W ops (k + l.length) (gE (chunk P n ops L (steps k l) E)) L Q → JO P n w0 W ops k E L Q := by
  intro l
  induction l with
  | nil => intro k E _ h; exact h
  | cons x l ih =>
    intro k E hc h
    obtain ⟨r, h1, hn, hb, hc', hg⟩ := cl_cons hc
    rw [steps, hg] at h
    have hlt := oneF_some h1
    intro a w hok
    rw [range_drop hlt, wpOps_cons]
    refine oneF_sound hok h1 hn hb fun a' hok' => ?_
    refine ih hc' ?_ a' w hok'
    simp only [List.length_cons] at h
    rwa [show k + (l.length + 1) = k + 1 + l.length from by omega] at h

theorem jo_end {k : Nat} (hk : ops.size = k) (h : JX n w0 W .normal E L Q) : JO P n w0 W ops k E L Q := by
  intro a w hok
  subst hk
  rw [List.drop_of_length_le (by simp)]
  exact h a w hok

theorem jc_region {id : Nat} (h : JO P n w0 W ops 0 E L Q) : JC P n w0 W (.region id ops false) E L Q := fun a w hok => wp_region (h a w hok)

theorem jc_seq {x y : Code} (h : JC P n w0 W x E L (Exit.then (y.wp P Q) Q)) : JC P n w0 W (.seq x y) E L Q := fun a w hok => wp_seq (h a w hok)
theorem jc_skip (h : JX n w0 W .normal E L Q) : JC P n w0 W .skip E L Q := fun a w hok => wp_skip (h a w hok)
theorem jc_exit {i : Nat} (h : JX n w0 W (.exit i) E L Q) : JC P n w0 W (.exit i) E L Q := fun a w hok => wp_exit (h a w hok)
theorem jc_ret (h : JX n w0 W .ret E L Q) : JC P n w0 W .ret E L Q := fun a w hok => wp_ret (h a w hok)
theorem jc_block {i : Nat} {c : Code} (h : JC P n w0 W c E L (Exit.inBlock i Q)) : JC P n w0 W (.block i c) E L Q := fun a w hok => wp_block (h a w hok)

theorem jx_then {y : Code} (h : JC P n w0 W y E L Q) : JX n w0 W .normal E L (Exit.then (y.wp P Q) Q) := h
theorem jx_thenx {K : Act → World → Prop} {i : Nat} (h : JX n w0 W (.exit i) E L Q) : JX n w0 W (.exit i) E L (Exit.then K Q) := h
theorem jx_thenr {K : Act → World → Prop} (h : JX n w0 W .ret E L Q) : JX n w0 W .ret E L (Exit.then K Q) := h
theorem jx_inn {i : Nat} (h : JX n w0 W .normal E L Q) : JX n w0 W .normal E L (Exit.inBlock i Q) := h
theorem jx_inr {i : Nat} (h : JX n w0 W .ret E L Q) : JX n w0 W .ret E L (Exit.inBlock i Q) := h
theorem jx_ine {i : Nat} (h : JX n w0 W .normal E L Q) : JX n w0 W (.exit i) E L (Exit.inBlock i Q) := by
  intro a w hok; simp only [Exit.inBlock, if_true]; exact h a w hok
theorem jx_inx {i j : Nat} (hb : Nat.beq j i = false) (h : JX n w0 W (.exit j) E L Q) : JX n w0 W (.exit j) E L (Exit.inBlock i Q) := by
  intro a w hok
  have : j ≠ i := fun e => by subst e; simp at hb
  simp only [Exit.inBlock, this, if_false]
  exact h a w hok

/-- A test: its value, and the two ways. -/
theorem jc_cond {c : Operand} {x y : Code} (b : Bool) (hb : evo E [] c = some (.bool b)) (ht : b = true → JC P n w0 W x E L Q) (hf : b = false → JC P n w0 W y E L Q) :
    JC P n w0 W (.cond c x y) E L Q := by
  intro a w hok
  have := evo_sound hok (G := []) (by simp) hb
  exact wp_cond_split this (fun e => ht e a w hok) (fun e => hf e a w hok)

/-- Fewer things known. -/
theorem lk_ok {E E' : Env} {a : Act} {w : World} {L' : List Blk} (h : Ok n w0 W E L a w) (hE : E'.map (fun e => lk E e.1) = E'.map (fun e => some e.2)) (hL : ∀ x ∈ L', x ∈ L) (hd : (L'.filterMap Blk.b).Nodup) :
    Ok n w0 W E' L' a w := by
  refine ⟨h.sz, h.df, ?_, ?_⟩
  · intro t g v hl hg
    have hm : ∃ e ∈ E', e = (t, g, v) := by
      clear hE
      induction E' with
      | nil => simp [lk] at hl
      | cons e E' ih =>
        obtain ⟨d, g', v'⟩ := e
        simp only [lk] at hl
        cases hq : Nat.beq d t with
        | true =>
          rw [hq] at hl; simp only [cond_true, Option.some.injEq, Prod.mk.injEq] at hl
          have := Nat.eq_of_beq_eq_true hq
          obtain ⟨rfl, rfl⟩ := hl
          exact ⟨_, List.mem_cons_self, by rw [this]⟩
        | false => rw [hq] at hl; simp only [cond_false] at hl; obtain ⟨e, h1, h2⟩ := ih hl; exact ⟨e, List.mem_cons_of_mem _ h1, h2⟩
    obtain ⟨e, hm, rfl⟩ := hm
    have := List.map_inj_left.1 hE _ hm
    exact h.env t g v this hg
  · exact ⟨h.mem.os, h.mem.tape, h.mem.output, h.mem.drw, h.mem.size, h.mem.old, fun x hx => h.mem.own x (hL x hx), hd, fun x hx => h.mem.new x (hL x hx)⟩


theorem jc_weak {c : Code} (E' : Env) (L' : List Blk) (hE : E'.map (fun e => lk E e.1) = E'.map (fun e => some e.2)) (hL : ∀ x ∈ L', x ∈ L) (hd : (L'.filterMap Blk.b).Nodup)
    (h : JC P n w0 W c E' L' Q) : JC P n w0 W c E L Q := fun a w hok => h a w (lk_ok hok hE hL hd)
theorem jo_weak {k : Nat} (E' : Env) (hE : E'.map (fun e => lk E e.1) = E'.map (fun e => some e.2))
    (h : JO P n w0 W ops k E' L Q) : JO P n w0 W ops k E L Q := fun a w hok => h a w (lk_ok hok hE (fun _ h => h) hok.mem.dis)
theorem jx_weak {e : Exit} (E' : Env) (hE : E'.map (fun e => lk E e.1) = E'.map (fun e => some e.2))
    (h : JX n w0 W e E' L Q) : JX n w0 W e E L Q := fun a w hok => h a w (lk_ok hok hE (fun _ h => h) hok.mem.dis)
/-- What is known of some temporaries alone. -/
def restr (ts : List Nat) (E : Env) : Env := ts.filterMap fun t => (lk E t).map fun x => (t, x.1, x.2)
omit dsW in
theorem restr_ok {ts : List Nat} {E : Env} : (restr ts E).map (fun e => lk E e.1) = (restr ts E).map (fun e => some e.2) := by
  apply List.map_congr_left
  intro e he
  simp only [restr, List.mem_filterMap, Option.map_eq_some_iff] at he
  obtain ⟨t, _, x, hx, rfl⟩ := he
  exact hx

/-! ### a function's begin and end -/

/-- The end of a function: it returns a value of which R says what it should. -/
def QB (P : Program) (fn : Func) (R : Value → World → Prop) : Exit → Act → World → Prop
  | .normal, a, w | .ret, a, w => a.defers = [] ∧ ∃ v, (results fn a.tmps).run P w = .ok v w ∧ R v w
  | _, _, _ => False

instance {fn : Func} {R : Value → World → Prop} : NoP (QB P fn R) := ⟨fun _ _ _ _ _ h => h⟩
instance {K : Act → World → Prop} [h : NoP Q] : NoP (Exit.then K Q) := ⟨fun c a d v w => h.no c a d v w⟩
instance {i : Nat} [h : NoP Q] : NoP (Exit.inBlock i Q) := ⟨fun c a d v w => h.no c a d v w⟩

/-- the temporaries that results name -/
def resT : ResultVar → Nat
  | .tmp t => t
  | .cell a _ => a

def one : List Value → Value
  | [v] => v
  | l => .tuple l.toArray

/-- The value of some results, out of what is known. -/
def resF (P : Program) (L : List Blk) (E : Env) : List ResultVar → List Nat → Option (List Value × List (Nat × Nat))
  | [], _ => some ([], [])
  | .tmp t :: l, hs => match evo E [] (.tmp t), resF P L E l hs with
    | some v, some r => some (v :: r.1, r.2)
    | _, _ => none
  | .cell a t :: l, hs => match evo E [] (.tmp a) with
    | some v => match lRun P L (asAddr v >>= loadVar t) [(hnext hs).1], resF P L E l (hnext hs).2 with
      | some x, some r => some (x.1 :: r.1, x.2 ++ r.2)
      | _, _ => none
    | none => none

def resOne (tmps : Array Value) : ResultVar → Sem Value
  | .tmp t => pure (tmps.getD t undef)
  | .cell a t => do loadVar t (← asAddr (tmps.getD a undef))

omit dsW in
theorem results_eq {fn : Func} {tmps : Array Value} {w : World} {vs : List Value} (h : (fn.results.toList.mapM (resOne tmps)).run P w = .ok vs w) :
    (results fn tmps).run P w = .ok (one vs) w := by
  have : results fn tmps = (do let vs ← fn.results.mapM (resOne tmps); pure (if h : vs.size = 1 then vs[0] else .tuple vs)) := by
    unfold results
    congr 1
  rw [this, Array.mapM_eq_mapM_toList]
  simp only [Sem.run_bind, Sem.run_map, h, Result.andThen_ok, Sem.run_pure]
  congr 1
  match vs with
  | [] => rfl
  | [v] => rfl
  | a :: b :: l => simp [one]

theorem resF_sound {a : Act} {w : World} (h : Ok n w0 W E L a w) : ∀ (rs : List ResultVar) (hs : List Nat) (r : List Value × List (Nat × Nat)),
    resF P L E rs hs = some r → r.2.map (·.1) = r.2.map (·.2) → (rs.mapM (resOne a.tmps)).run P w = .ok r.1 w := by
  intro rs
  induction rs with
  | nil => intro hs r hr _; simp only [resF, Option.some.injEq] at hr; subst hr; rfl
  | cons x rs ih =>
    intro hs r hr hc
    cases x with
    | tmp t =>
      simp only [resF] at hr
      split at hr
      · rename_i v r' hv hr'
        simp only [Option.some.injEq] at hr
        subst hr
        have e := evo_sound h (G := []) (by simp) hv
        simp only [Act.eval] at e
        simp [resOne, ih hs r' hr' hc, e]
      · simp at hr
    | cell t T =>
      simp only [resF] at hr
      split at hr
      · rename_i v hv
        split at hr
        · rename_i x r' hx hr'
          simp only [Option.some.injEq] at hr
          subst hr
          simp only [List.map_append] at hc
          have e1 := List.append_inj hc (by simp)
          have e := evo_sound h (G := []) (by simp) hv
          simp only [Act.eval] at e
          have hl := lRun_sound (fun x hx c hc off u hu => h.mem.cell hx hc off u hu) _ _ _ hx e1.1
          simp only [Sem.run_bind] at hl
          cases ha : (asAddr v).run P w with
          | halt y w1 => rw [ha] at hl; simp at hl
          | ok y w1 =>
            rw [ha] at hl
            simp only [Result.andThen_ok] at hl
            simp [resOne, e, ha, hl, ih _ r' hr' e1.2]
        · simp at hr
      · simp at hr

def rl : Option (List Value × List (Nat × Nat)) → Option (Value × List Nat)
  | some r => some (one r.1, r.2.map (·.1))
  | none => none

/-- The return: the results' value (printed), what R has to say of it. -/
theorem jx_ret {fn : Func} {R : Value → World → Prop} {rs : List ResultVar} (hs : List Nat) (v : Value) (bs : List (Nat × Nat)) (hrs : fn.results.toList = rs)
    (hr : (resF P L E rs hs).map (fun r => (one r.1, r.2)) = some (v, bs)) (hb : bs.map (·.1) = bs.map (·.2)) (hR : ∀ w, Mem w0 W L w → R v w) :
    JX n w0 W .ret E L (QB P fn R) := by
  intro a w hok
  simp only [Option.map_eq_some_iff, Prod.mk.injEq] at hr
  obtain ⟨r, h1, rfl, rfl⟩ := hr
  subst hrs
  exact ⟨hok.df, _, results_eq (resF_sound hok _ hs r h1 hb), hR w hok.mem⟩

theorem jx_fall {fn : Func} {R : Value → World → Prop} (h : JX n w0 W .ret E L (QB P fn R)) : JX n w0 W .normal E L (QB P fn R) := h

/-- what a call hands over -/
def argE (k : Nat) : List Value → Env
  | [] => []
  | v :: l => (k, [], v) :: argE (k + 1) l

omit dsW in
theorem lk_argE : ∀ (l : List Value) (k t : Nat) (g : List (Nat × Bool)) (v : Value), lk (argE k l) t = some (g, v) → k ≤ t ∧ l[t - k]? = some v := by
  intro l
  induction l with
  | nil => intro k t g v h; simp [argE, lk] at h
  | cons x l ih =>
    intro k t g v h
    simp only [argE, lk] at h
    cases hq : Nat.beq k t with
    | true =>
      rw [hq] at h
      simp only [cond_true, Option.some.injEq, Prod.mk.injEq] at h
      have := Nat.eq_of_beq_eq_true hq
      subst this
      exact ⟨Nat.le_refl _, by simp [h.2]⟩
    | false =>
      rw [hq] at h
      simp only [cond_false] at h
      obtain ⟨h1, h2⟩ := ih (k + 1) t g v h
      refine ⟨by omega, ?_⟩
      have : t - k = (t - (k + 1)) + 1 := by omega
      rw [this]; simpa using h2

/-- A call: the body's judgement, from the memory at hand. -/
theorem enter {f : FuncId} {fn : Func} {c : Code} {args : List Value} {w : World} {R : Value → World → Prop} (hf : P.funcs[f]? = some fn) (hb : fn.body = some c)
    (hn : fn.ntmps = n) (hle : Nat.ble args.length n = true) (hm : Mem w W L w) (h : JC P n w W c (argE 0 args) L (QB P fn R)) :
    Calls P f args.toArray w fun e w' => ∃ v, e = .returned v ∧ R v w' := by
  refine calls_of_wp hf hb (wp_mono (h _ w ⟨?_, rfl, ?_, hm⟩) ?_)
  · have := Nat.le_of_ble_eq_true hle
    simp [hn]; omega
  · intro t g v hl _
    obtain ⟨_, h2⟩ := lk_argE args 0 t g v hl
    simp only [Nat.sub_zero] at h2
    have hlt : t < args.length := by
      rcases Nat.lt_or_ge t args.length with h' | h'
      · exact h'
      · rw [List.getElem?_eq_none h'] at h2; simp at h2
    simp only [Array.getD_eq_getD_getElem?]
    rw [Array.getElem?_append_left (by simpa using hlt)]
    simp [h2]
  · intro e a' w' hq
    cases e with
    | normal => obtain ⟨hd, v, hr, hR⟩ := hq; exact ⟨hd, v, hr, v, rfl, hR⟩
    | ret => obtain ⟨hd, v, hr, hR⟩ := hq; exact ⟨hd, v, hr, v, rfl, hR⟩
    | _ => exact hq.elim


/-! ### operations that make a block, or write into known ones -/

def isCell : Value → Bool
  | .agg _ => false
  | .tuple _ => false
  | _ => true

def mRun (P : Program) {α : Type} : Sem α → Option Nat → List Blk → List Nat → Option (α × List Blk × List (Nat × Nat))
  | .pure a, _, L, _ => some (a, L, [])
  | .program k, b, L, hs => mRun P (k P) b L hs
  | .mark _ k, b, L, hs => mRun P k b L hs
  | .load _ a k, b, L, hs => match a, L[(hnext hs).1]? with
    | ⟨c, off, none⟩, some ⟨some d, _, cs⟩ => match cs[off]? with
      | some v => match mRun P (k v) b L (hnext hs).2 with
        | some r => some (r.1, r.2.1, (c, d) :: r.2.2)
        | none => none
      | none => none
    | _, _ => none
  | .store _ a v k, b, L, hs => match a, L[(hnext hs).1]? with
    | ⟨c, off, none⟩, some ⟨some d, T, cs⟩ => bif isCell v && Nat.blt off cs.length then
        match mRun P k b (L.set (hnext hs).1 ⟨some d, T, cs.set off v⟩) (hnext hs).2 with
        | some r => some (r.1, r.2.1, (c, d) :: r.2.2)
        | none => none
      else none
    | _, _ => none
  | .new o k, b, L, hs => match o, b with
    | .cells c T fz, some b => bif Nat.beq fz.1 0 && Nat.beq fz.2 0 then mRun P (k b) none (L ++ [⟨some b, T, c.toList⟩]) hs else none
    | _, _ => none
  | _, _, _, _ => none

omit dsW in
theorem heap_lt {w : World} {b : Nat} {o : Obj} (h : w.heap[b]? = some o) : b < w.heap.size := by
  rcases Nat.lt_or_ge b w.heap.size with h' | h'
  · exact h'
  · simp [Array.getElem?_eq_none h'] at h

theorem Mem.lt {w : World} (h : Mem w0 W L w) {x : Blk} (hx : x ∈ L) {b : Nat} (hb : x.b = some b) : b < w.heap.size := heap_lt (h.own x hx b hb)

theorem Mem.alloc {w : World} (h : Mem w0 W L w) (c : Array Value) (T : TypeId) :
    Mem w0 W (L ++ [⟨some w.heap.size, T, c.toList⟩]) { w with heap := w.heap.push (.cells c T (0, 0)) } := by
  refine ⟨h.os, h.tape, h.output, h.drw, by simp; exact Nat.le_succ_of_le h.size, ?_, ?_, ?_, ?_⟩
  · intro b hb hn
    have := h.size
    simp only [Array.getElem?_push]
    rw [if_neg (by omega)]
    exact h.old b hb hn
  · intro x hx b hb
    simp only [Array.getElem?_push]
    rcases List.mem_append.1 hx with hx | hx
    · rw [if_neg (by have := h.lt hx hb; omega)]; exact h.own x hx b hb
    · simp only [List.mem_singleton] at hx; subst hx; cases hb; simp
  · rw [List.filterMap_append, List.nodup_append]
    refine ⟨h.dis, by simp, ?_⟩
    intro a ha b hb
    simp only [List.filterMap_cons, List.filterMap_nil, List.mem_singleton] at hb
    obtain ⟨x, hx, hxa⟩ := List.mem_filterMap.1 ha
    have := h.lt hx hxa
    omega
  · intro x hx b hb
    rcases List.mem_append.1 hx with hx | hx
    · exact h.new x hx b hb
    · simp only [List.mem_singleton] at hx; subst hx; cases hb; exact .inr h.size

omit dsW in
theorem nodup_set {L : List Blk} {i : Nat} {x y : Blk} (hi : L[i]? = some x) (hb : y.b = x.b) : (L.set i y).filterMap Blk.b = L.filterMap Blk.b := by
  induction L generalizing i with
  | nil => simp
  | cons z L ih =>
    cases i with
    | zero => simp at hi; subst hi; simp [List.filterMap_cons, hb]
    | succ i => simp at hi; simp [List.filterMap_cons, ih hi]

omit dsW in
theorem mem_set_of {L : List Blk} {i : Nat} {x y z : Blk} (hi : L[i]? = some x) (hd : (L.filterMap Blk.b).Nodup) (hz : z ∈ L.set i y) : z = y ∨ (z ∈ L ∧ ∀ b c, z.b = some b → x.b = some c → b ≠ c) := by
  induction L generalizing i with
  | nil => simp at hz
  | cons u L ih =>
    have hd' : (L.filterMap Blk.b).Nodup := by
      rw [List.filterMap_cons] at hd
      split at hd
      · exact hd
      · exact (List.nodup_cons.1 hd).2
    cases i with
    | zero =>
      simp at hi; subst hi
      simp only [List.set_cons_zero, List.mem_cons] at hz
      rcases hz with rfl | hz
      · exact .inl rfl
      · refine .inr ⟨List.mem_cons_of_mem _ hz, ?_⟩
        intro b c h1 h2 e
        subst e
        rw [List.filterMap_cons, h2] at hd
        exact (List.nodup_cons.1 hd).1 (List.mem_filterMap.2 ⟨z, hz, h1⟩)
    | succ i =>
      simp at hi
      simp only [List.set_cons_succ, List.mem_cons] at hz
      rcases hz with rfl | hz
      · refine .inr ⟨List.mem_cons_self, ?_⟩
        intro b c h1 h2 e
        subst e
        rw [List.filterMap_cons, h1] at hd
        exact (List.nodup_cons.1 hd).1 (List.mem_filterMap.2 ⟨x, List.mem_of_getElem? hi, h2⟩)
      · rcases ih hi hd' hz with h | ⟨h1, h2⟩
        · exact .inl h
        · exact .inr ⟨List.mem_cons_of_mem _ h1, h2⟩

/-- a known block's cells anew, the world as it then is -/
theorem Mem.upd {w w' : World} (h : Mem w0 W L w) {i d : Nat} {T : TypeId} {cs cs' : List Value} (hi : L[i]? = some ⟨some d, T, cs⟩) (hos : w'.os = w.os) (htp : w'.tape = w.tape) (hou : w'.output = w.output) (hdr : w'.drawn = w.drawn)
    (hsz : w'.heap.size = w.heap.size) (ho : ∀ b, b ≠ d → w'.heap[b]? = w.heap[b]?) (hn : w'.heap[d]? = some (.cells cs'.toArray T (0, 0))) :
    Mem w0 W (L.set i ⟨some d, T, cs'⟩) w' := by
  have hx := List.mem_of_getElem? hi
  refine ⟨hos.trans h.os, htp.trans h.tape, hou.trans h.output, hdr ▸ h.drw, hsz ▸ h.size, ?_, ?_, ?_, ?_⟩
  · intro b hb hnb
    have : b ≠ d := by
      intro e; subst e
      rcases h.new _ hx b rfl with h' | h'
      · exact hnb h'
      · omega
    rw [ho b this]
    exact h.old b hb hnb
  · intro z hz b hb
    rcases mem_set_of hi h.dis hz with rfl | ⟨hz, hne⟩
    · cases hb; exact hn
    · rw [ho b (hne b d hb rfl)]; exact h.own z hz b hb
  · rw [nodup_set hi]; exact h.dis; rfl
  · intro z hz b hb
    rcases mem_set_of hi h.dis hz with rfl | ⟨hz, _⟩
    · cases hb; exact h.new _ hx d rfl
    · exact h.new z hz b hb

theorem Mem.set {w : World} (h : Mem w0 W L w) {i d : Nat} {T : TypeId} {cs : List Value} (hi : L[i]? = some ⟨some d, T, cs⟩) (off : Nat) (v : Value) :
    Mem w0 W (L.set i ⟨some d, T, cs.set off v⟩) (w.setCell ⟨d, off, none⟩ v) := by
  have hox := h.own _ (List.mem_of_getElem? hi) d rfl
  refine h.upd hi rfl rfl rfl rfl (by simp [World.setCell]) ?_ ?_
  · intro b hb
    simp only [World.setCell, Array.getElem?_modify]
    rw [if_neg (Ne.symm hb)]
  · simp [World.setCell, Array.getElem?_modify, hox]

theorem Mem.frozen {w : World} (h : Mem w0 W L w) {x : Blk} (hx : x ∈ L) {d : Nat} (hd : x.b = some d) (off : Nat) : w.frozen? ⟨d, off, none⟩ = false := by
  simp [World.frozen?, h.own x hx d hd]

theorem mRun_sound {α : Type} : ∀ (s : Sem α) (b : Option Nat) (L : List Blk) (hs : List Nat) (r : α × List Blk × List (Nat × Nat)) (w : World),
    mRun P s b L hs = some r → r.2.2.map (·.1) = r.2.2.map (·.2) → Mem w0 W L w → (∀ c, b = some c → c = w.heap.size) → ∃ w', s.run P w = .ok r.1 w' ∧ Mem w0 W r.2.1 w' := by
  intro s
  induction s with
  | pure a => intro b L hs r w h _ hm _; simp only [mRun, Option.some.injEq] at h; subst h; exact ⟨w, rfl, hm⟩
  | program k ih => intro b L hs r w h hc hm hb; simp only [mRun] at h; simp only [Sem.run]; exact ih _ b L hs r w h hc hm hb
  | mark m k ih => intro b L hs r w h hc hm hb; simp only [mRun] at h; simp only [Sem.run]; exact ih b L hs r w h hc hm hb
  | load m a k ih =>
    intro b L hs r w h hc hm hb
    unfold mRun at h
    split at h
    · rename_i c off d T cs hx
      split at h
      · rename_i v hv
        split at h
        · rename_i r' hr'
          simp only [Option.some.injEq] at h
          subst h
          simp only [List.map_cons, List.cons.injEq] at hc
          have h1 := hm.cell (List.mem_of_getElem? hx) rfl off v hv
          rw [← hc.1] at h1
          simp only [Sem.run, h1]
          exact ih v b L _ r' w hr' hc.2 hm hb
        · simp at h
      · simp at h
    · simp at h
  | store m a v k ih =>
    intro b L hs r w h hc hm hb
    unfold mRun at h
    split at h
    · rename_i c off d T cs hx
      cases hlt : (isCell v && Nat.blt off cs.length) with
      | false => rw [hlt] at h; simp at h
      | true =>
        rw [hlt] at h
        simp only [cond_true] at h
        simp only [Bool.and_eq_true] at hlt
        split at h
        · rename_i r' hr'
          simp only [Option.some.injEq] at h
          subst h
          simp only [List.map_cons, List.cons.injEq] at hc
          have hl := blt hlt.2
          have h1 := hm.cell (List.mem_of_getElem? hx) rfl off cs[off] (by simp [hl])
          have hf := hm.frozen (List.mem_of_getElem? hx) rfl off
          have h2 := hm.set hx off v
          have hcb : c = d := hc.1
          subst hcb
          have hrun : (Sem.store m ⟨c, off, none⟩ v k).run P w = k.run P (w.setCell ⟨c, off, none⟩ v) := by
            have hi := hlt.1
            cases v with
            | agg cs => cases hi
            | tuple cs => cases hi
            | _ => simp only [Sem.run, h1, hf, Bool.false_eq_true, if_false]
          rw [hrun]
          refine ih b _ _ r' _ hr' hc.2 h2 ?_
          intro d hd; rw [hb d hd]; simp [World.setCell]
        · simp at h
    · simp at h
  | new o k ih =>
    intro b L hs r w h hc hm hb
    unfold mRun at h
    split at h
    · rename_i c T fz b'
      cases hz : (Nat.beq fz.1 0 && Nat.beq fz.2 0) with
      | false => rw [hz] at h; simp at h
      | true =>
        rw [hz] at h
        simp only [cond_true] at h
        simp only [Bool.and_eq_true] at hz
        obtain ⟨lo, hi⟩ := fz
        have e1 := Nat.eq_of_beq_eq_true hz.1
        have e2 := Nat.eq_of_beq_eq_true hz.2
        simp only at e1 e2
        subst e1 e2
        have hbb := hb b' rfl
        subst hbb
        simp only [Sem.run]
        exact ih _ none _ hs r _ h hc (hm.alloc c T) (by simp)
    · simp at h
  | _ => intro b L hs r w h; unfold mRun at h; simp at h


/-! ### one operation at a time -/

def dOk (n : Nat) (E : Env) (o : Oper) : Bool := match o.dst with
  | some d => Nat.blt d n && freeOf E d
  | none => true
def putE (E : Env) (o : Oper) (v : Value) : Env := match o.dst with
  | some d => (d, [], v) :: E
  | none => E

theorem Ok.mem' {a : Act} {w w' : World} {L' : List Blk} (h : Ok n w0 W E L a w) (hm : Mem w0 W L' w') : Ok n w0 W E L' a w' := ⟨h.sz, h.df, h.env, hm⟩

theorem putE_ok {a : Act} {w : World} (h : Ok n w0 W E L a w) {o : Oper} (hd : dOk n E o = true) (v : Value) : Ok n w0 W (putE E o v) L (a.put o.dst v) w := by
  unfold dOk at hd
  unfold putE
  split at hd
  · rename_i d e
    rw [e]
    simp only [Bool.and_eq_true] at hd
    exact h.put (blt hd.1) hd.2 (by simp) (fun _ => rfl)
  · rename_i e
    rw [e]
    exact h

/-- no guard, or one that is known and wanted (its condition: the second) -/
def gok (ops : Array Oper) (E : Env) (o : Oper) (m : Nat) : Option (List Bool) := match guardF ops E o m with
  | some ([], cb) => some (cb.map (·.1))
  | _ => none
def gok' (ops : Array Oper) (E : Env) (o : Oper) (m : Nat) : Option (List Bool) := match guardF ops E o m with
  | some ([], cb) => some (cb.map (·.2))
  | _ => some [true, true, true]

theorem gok_wanted {a : Act} {w : World} (h : Ok n w0 W E L a w) {o : Oper} {m : Nat} (hg : gok ops E o m = gok' ops E o m) : Region.wanted o (yielded ops a.tmps) = true := by
  unfold gok gok' at hg
  split at hg
  · rename_i cb e
    simp only [Option.some.injEq] at hg
    exact (guard_sound h e hg).2 (by simp)
  · simp at hg

/-- An operation that yields v, whatever world there is. -/
theorem op_v {k m : Nat} {o : Oper} (ho : ops[k]? = some o) (hg : gok ops E o m = gok' ops E o m) (hd : dOk n E o = true) (hkn : known E [] o.op = true) (hs : notSel o.op = true)
    (v : Value) (hv : ∀ w, Mem w0 W L w → (execOp (ev E []) o).run P w = .ok (.value v) w) :
    ∀ a w, Ok n w0 W E L a w → ∀ K : Act → World → Prop, (∀ a' w', Ok n w0 W (putE E o v) L a' w' → K a' w') → wpOp P ops Q k K a w := by
  intro a w hok K hK
  have hw := gok_wanted hok hg
  refine wpOp_value (v := v) ho (fun _ => ?_) (fun _ => hK _ _ (putE_ok hok hd v)) (fun h => by rw [hw] at h; cases h)
  rw [exec_known hok (G := []) (by simp) hkn hs]
  exact hv w hok.mem

/-- the operation of number k -/
def opAt (ops : Array Oper) (k : Nat) : Oper := (ops[k]?).getD default
/-- the checks ahead of an operation, in one equation -/
def pl (n : Nat) (ops : Array Oper) (k m : Nat) (E : Env) : Option (List Bool) := match ops[k]? with
  | some o => bif dOk n E o && known E [] o.op && notSel o.op then gok ops E o m else none
  | none => none
def pr (n : Nat) (ops : Array Oper) (k m : Nat) (E : Env) : Option (List Bool) := match ops[k]? with
  | some o => bif dOk n E o && known E [] o.op && notSel o.op then gok' ops E o m else some [true]
  | none => some []

omit dsW in
theorem pre_ok {k m : Nat} (h : pl n ops k m E = pr n ops k m E) : ops[k]? = some (opAt ops k) ∧ gok ops E (opAt ops k) m = gok' ops E (opAt ops k) m ∧ dOk n E (opAt ops k) = true ∧
    known E [] (opAt ops k).op = true ∧ notSel (opAt ops k).op = true := by
  unfold pl pr at h
  cases ho : ops[k]? with
  | none => rw [ho] at h; simp at h
  | some o =>
    rw [ho] at h
    have e : opAt ops k = o := by simp [opAt, ho]
    rw [e]
    simp only at h
    cases hb : (dOk n E o && known E [] o.op && notSel o.op) with
    | false => rw [hb] at h; simp at h
    | true =>
      rw [hb] at h
      simp only [cond_true] at h
      simp only [Bool.and_eq_true] at hb
      exact ⟨rfl, h, hb.1.1, hb.1.2, hb.2⟩

theorem p_v {K : Act → World → Prop} {k : Nat} (m : Nat) (hp : pl n ops k m E = pr n ops k m E) (v : Value) (hv : ∀ w, Mem w0 W L w → (execOp (ev E []) (opAt ops k)).run P w = .ok (.value v) w)
    (hk : JK n w0 W K (putE E (opAt ops k) v) L) : JP P n w0 W ops k K E L Q :=
  have h := pre_ok hp
  fun a w hok => op_v h.1 h.2.1 h.2.2.1 h.2.2.2.1 h.2.2.2.2 v hv a w hok K hk

structure Res2 where
  E : Env
  L : List Blk
  cn : List (Nat × Nat)

/-- An operation that makes a block, or writes into known ones. -/
def mOp (P : Program) (E : Env) (L : List Blk) (o : Oper) (b : Option Nat) (hs : List Nat) : Option Res2 :=
  bif known E [] o.op && notSel o.op then
    match mRun P (execOp (ev E []) o) b L hs with
    | some (.value v, L', cn) => some ⟨putE E o v, L', cn⟩
    | some (.skip, L', cn) => some ⟨putE E o undef, L', cn⟩
    | _ => none
  else none
def ml : Option Res2 → Option (List Nat)
  | some r => some (r.cn.map (·.1))
  | none => some [0]
def mr : Option Res2 → Option (List Nat)
  | some r => some (r.cn.map (·.2))
  | none => none
def mE : Option Res2 → Env
  | some r => r.E
  | none => []
def mL : Option Res2 → List Blk
  | some r => r.L
  | none => []

theorem op_m {k m : Nat} {o : Oper} (ho : ops[k]? = some o) (hg : gok ops E o m = gok' ops E o m) (hd : dOk n E o = true) (b : Option Nat) (hs : List Nat)
    (hc : ml (mOp P E L o b hs) = mr (mOp P E L o b hs)) :
    ∀ a w, Ok n w0 W E L a w → (∀ c, b = some c → c = w.heap.size) → ∀ K : Act → World → Prop, (∀ a' w', Ok n w0 W (mE (mOp P E L o b hs)) (mL (mOp P E L o b hs)) a' w' → K a' w') → wpOp P ops Q k K a w := by
  intro a w hok hb K hK
  have hw := gok_wanted hok hg
  unfold wpOp
  simp only [ho, hw, if_true]
  refine .inl ?_
  unfold Oper.wp
  generalize hr : mOp P E L o b hs = r at *
  unfold mOp at hr
  cases hkk : (known E [] o.op && notSel o.op) with
  | false => rw [hkk] at hr; simp only [cond_false] at hr; subst hr; simp [ml, mr] at hc
  | true =>
    rw [hkk] at hr
    simp only [cond_true] at hr
    simp only [Bool.and_eq_true] at hkk
    rw [exec_known hok (G := []) (by simp) hkk.1 hkk.2]
    split at hr
    · rename_i v L' cn hm
      subst hr
      simp only [ml, mr, Option.some.injEq] at hc
      obtain ⟨w', hrun, hm'⟩ := mRun_sound _ b L hs _ w hm hc hok.mem hb
      rw [hrun]
      exact hK _ _ (putE_ok (hok.mem' hm') hd v)
    · rename_i L' cn hm
      subst hr
      simp only [ml, mr, Option.some.injEq] at hc
      obtain ⟨w', hrun, hm'⟩ := mRun_sound _ b L hs _ w hm hc hok.mem hb
      rw [hrun]
      exact hK _ _ (putE_ok (hok.mem' hm') hd undef)
    · subst hr; simp [ml, mr] at hc

/-- It makes a block: whatever its number. -/
theorem p_a {K : Act → World → Prop} {k : Nat} (m : Nat) (hs : List Nat) (hp : pl n ops k m E = pr n ops k m E)
    (hc : ∀ b, ml (mOp P E L (opAt ops k) (some b) hs) = mr (mOp P E L (opAt ops k) (some b) hs))
    (hk : ∀ b, JK n w0 W K (mE (mOp P E L (opAt ops k) (some b) hs)) (mL (mOp P E L (opAt ops k) (some b) hs))) :
    JP P n w0 W ops k K E L Q := by
  have h := pre_ok hp
  intro a w hok
  exact op_m h.1 h.2.1 h.2.2.1 (some w.heap.size) hs (hc _) a w hok (fun c h => (Option.some.inj h).symm) _ (hk _)

/-- It writes. -/
theorem p_s {K : Act → World → Prop} {k : Nat} (m : Nat) (hs : List Nat) (hp : pl n ops k m E = pr n ops k m E)
    (hc : ml (mOp P E L (opAt ops k) none hs) = mr (mOp P E L (opAt ops k) none hs))
    (hk : JK n w0 W K (mE (mOp P E L (opAt ops k) none hs)) (mL (mOp P E L (opAt ops k) none hs))) :
    JP P n w0 W ops k K E L Q := by
  have h := pre_ok hp
  intro a w hok
  exact op_m h.1 h.2.1 h.2.2.1 none hs hc a w hok (fun c h => by cases h) _ hk

/-- A call, by its contract. -/
theorem op_call {k m : Nat} {o : Oper} (ho : ops[k]? = some o) (hg : gok ops E o m = gok' ops E o m) (hd : dOk n E o = true) (hkn : known E [] o.op = true) (hs : notSel o.op = true)
    (f : FuncId) (args : Array Value) (hx : lRun P [] (execOp (ev E []) o) [] = some (.enter f args, []))
    {R : World → Value → World → Prop} (hc : ∀ w, Mem w0 W L w → Calls P f args w fun e w' => ∃ v, e = .returned v ∧ R w v w') {K : Act → World → Prop}
    (hK : ∀ w v w', Mem w0 W L w → R w v w' → ∃ L', Mem w0 W L' w' ∧ ∀ a, Ok n w0 W (putE E o v) L' a w' → K a w') :
    ∀ a w, Ok n w0 W E L a w → wpOp P ops Q k K a w := by
  intro a w hok
  have hw := gok_wanted hok hg
  unfold wpOp
  simp only [ho, hw, if_true]
  refine .inl ?_
  unfold Oper.wp
  rw [exec_known hok (G := []) (by simp) hkn hs, lRun_sound (L := []) (by simp) _ _ _ hx rfl]
  refine (hc w hok.mem).mono ?_
  rintro e w' ⟨v, rfl, hR⟩
  obtain ⟨L', hm', hk⟩ := hK w v w' hok.mem hR
  exact hk _ (putE_ok (hok.mem' hm') hd v)

theorem p_call {K : Act → World → Prop} {k : Nat} (m : Nat) (f : FuncId) (args : Array Value) (hp : pl n ops k m E = pr n ops k m E)
    (hx : lRun P [] (execOp (ev E []) (opAt ops k)) [] = some (.enter f args, []))
    {R : World → Value → World → Prop} (hc : ∀ w, Mem w0 W L w → Calls P f args w fun e w' => ∃ v, e = .returned v ∧ R w v w')
    (hK : ∀ w v w', Mem w0 W L w → R w v w' → ∃ L', Mem w0 W L' w' ∧ JK n w0 W K (putE E (opAt ops k) v) L') : JP P n w0 W ops k K E L Q := by
  have h := pre_ok hp
  intro a w hok
  refine op_call h.1 h.2.1 h.2.2.1 h.2.2.2.1 h.2.2.2.2 f args hx hc ?_ a w hok
  intro w1 v w' hm hR
  obtain ⟨L', h1, h2⟩ := hK w1 v w' hm hR
  exact ⟨L', h1, fun a hok => h2 a w' hok⟩

/-- Known blocks, and those that a call has made. -/
theorem Mem.app {w w' : World} {N : List Blk} (h : Mem w0 W L w) (h' : Mem w [] N w') : Mem w0 W (L ++ N) w' := by
  refine ⟨h'.os.trans h.os, h'.tape.trans h.tape, h'.output.trans h.output, h.drw.trans h'.drw, Nat.le_trans h.size h'.size, ?_, ?_, ?_, ?_⟩
  · intro b hb hn
    have := h.size
    rw [h'.old b (by omega) (by simp)]; exact h.old b hb hn
  · intro x hx b hb
    rcases List.mem_append.1 hx with hx | hx
    · rw [h'.old b (h.lt hx hb) (by simp)]; exact h.own x hx b hb
    · exact h'.own x hx b hb
  · rw [List.filterMap_append, List.nodup_append]
    refine ⟨h.dis, h'.dis, ?_⟩
    intro a ha b hb
    obtain ⟨x, hx, hxa⟩ := List.mem_filterMap.1 ha
    obtain ⟨y, hy, hyb⟩ := List.mem_filterMap.1 hb
    have h1 := h.lt hx hxa
    rcases h'.new y hy b hyb with h2 | h2
    · simp at h2
    · omega
  · intro x hx b hb
    have := h.size
    rcases List.mem_append.1 hx with hx | hx
    · exact h.new x hx b hb
    · rcases h'.new x hx b hb with h2 | h2
      · simp at h2
      · exact .inr (by omega)

/-- what waited for d to be b is known -/
def dis (d : Nat) (b : Bool) (E : Env) : Env := E.map fun e => (e.1, e.2.1.filter (fun g => !(Nat.beq g.1 d && (g.2 == b))), e.2.2)

omit dsW in
theorem lk_dis {d : Nat} {b : Bool} : ∀ {E : Env} {t : Nat} {g : List (Nat × Bool)} {v : Value}, lk (dis d b E) t = some (g, v) →
    ∃ g', lk E t = some (g', v) ∧ ∀ x ∈ g', x = (d, b) ∨ x ∈ g := by
  intro E
  induction E with
  | nil => intro t g v h; simp [dis, lk] at h
  | cons e E ih =>
    intro t g v h
    obtain ⟨e1, e2, e3⟩ := e
    simp only [dis, List.map_cons, lk] at h
    simp only [lk]
    cases hq : Nat.beq e1 t with
    | true =>
      rw [hq] at h
      simp only [cond_true, Option.some.injEq, Prod.mk.injEq] at h
      obtain ⟨rfl, rfl⟩ := h
      refine ⟨e2, rfl, ?_⟩
      intro x hx
      by_cases hx2 : (Nat.beq x.1 d && (x.2 == b)) = true
      · simp only [Bool.and_eq_true, beq_iff_eq] at hx2
        exact .inl (Prod.ext (Nat.eq_of_beq_eq_true hx2.1) hx2.2)
      · exact .inr (List.mem_filter.2 ⟨hx, by rw [Bool.not_eq_true] at hx2; simp only [hx2, Bool.not_false]⟩)
    | false =>
      rw [hq] at h
      simp only [cond_false] at h ⊢
      exact ih h

theorem Ok.split {a : Act} {w : World} (hok : Ok n w0 W E L a w) {d : Nat} {b : Bool} (hb : evo E [] (.tmp d) = some (.bool b)) : Ok n w0 W ((d, [], .bool b) :: dis d b E) L a w := by
  have h1 := evo_sound hok (G := []) (by simp) hb
  simp only [Act.eval] at h1
  refine ⟨hok.sz, hok.df, ?_, hok.mem⟩
  intro t g v hl hg
  simp only [lk] at hl
  cases hq : Nat.beq d t with
  | true =>
    rw [hq] at hl
    simp only [cond_true, Option.some.injEq, Prod.mk.injEq] at hl
    obtain ⟨rfl, rfl⟩ := hl
    rw [← Nat.eq_of_beq_eq_true hq]; exact h1
  | false =>
    rw [hq] at hl
    simp only [cond_false] at hl
    obtain ⟨g', h2, h3⟩ := lk_dis hl
    refine hok.env t g' v h2 fun x hx => ?_
    rcases h3 x hx with rfl | hx
    · exact h1
    · exact hg x hx

/-- A known temporary of a test is parted on. -/
theorem jo_split {k : Nat} (d : Nat) (b : Bool) (hb : evo E [] (.tmp d) = some (.bool b))
    (ht : b = true → JO P n w0 W ops k ((d, [], .bool true) :: dis d true E) L Q) (he : b = false → JO P n w0 W ops k ((d, [], .bool false) :: dis d false E) L Q) : JO P n w0 W ops k E L Q := by
  intro a w hok
  cases b with
  | true => exact ht rfl a w (hok.split hb)
  | false => exact he rfl a w (hok.split hb)
theorem jd_split {Ls : List Blk} {done : List Nat} {fuel : Nat} (d : Nat) (b : Bool) (hb : evo E [] (.tmp d) = some (.bool b))
    (ht : b = true → JD P n w0 W ops Ls done fuel ((d, [], .bool true) :: dis d true E) L Q) (he : b = false → JD P n w0 W ops Ls done fuel ((d, [], .bool false) :: dis d false E) L Q) : JD P n w0 W ops Ls done fuel E L Q := by
  intro a w hok
  cases b with
  | true => exact ht rfl a w (hok.split hb)
  | false => exact he rfl a w (hok.split hb)

/-! ### loops -/

/-- f's rounds from s on end in t -/
inductive It {S T : Type} (f : S → Option (S ⊕ T)) (t : T) : S → Prop
  | done {s} : f s = some (.inr t) → It f t s
  | step {s s'} : f s = some (.inl s') → It f t s' → It f t s

omit dsW in
theorem It.uniq {S T : Type} {f : S → Option (S ⊕ T)} {s : S} {t t' : T} (h : It f t s) (h' : It f t' s) : t = t' := by
  induction h with
  | done e => cases h' with
    | done e' => rw [e] at e'; simpa using e'
    | step e' _ => rw [e] at e'; simp at e'
  | step e _ ih => cases h' with
    | done e' => rw [e] at e'; simp at e'
    | step e' h2 => rw [e] at e'; simp at e'; subst e'; exact ih h2

open Classical in
/-- a loop: rounds till one ends it -/
noncomputable def loop {S T : Type} (f : S → Option (S ⊕ T)) (s : S) : Option T := if h : ∃ t, It f t s then some h.choose else none

omit dsW in
theorem loop_it {S T : Type} {f : S → Option (S ⊕ T)} {s : S} {t : T} : loop f s = some t ↔ It f t s := by
  unfold loop
  constructor
  · intro h
    split at h
    · rename_i hx; simp at h; exact h ▸ hx.choose_spec
    · simp at h
  · intro h
    have hx : ∃ t, It f t s := ⟨t, h⟩
    rw [dif_pos hx]
    exact congrArg some (hx.choose_spec.uniq h)

omit dsW in
theorem loop_eq {S T : Type} (f : S → Option (S ⊕ T)) (s : S) : loop f s = match f s with
    | none => none
    | some (.inl s') => loop f s'
    | some (.inr t) => some t := by
  split
  · rename_i e
    cases h : loop f s with
    | none => rfl
    | some t => cases loop_it.1 h with
      | done e' => rw [e] at e'; simp at e'
      | step e' _ => rw [e] at e'; simp at e'
  · rename_i s' e
    cases h : loop f s with
    | none =>
      cases h' : loop f s' with
      | none => rfl
      | some t => rw [loop_it.2 (.step e (loop_it.1 h'))] at h; cases h
    | some t => cases loop_it.1 h with
      | done e' => rw [e] at e'; simp at e'
      | step e' h2 => rw [e] at e'; simp at e'; subst e'; exact (loop_it.2 h2).symm
  · rename_i t e
    exact loop_it.2 (.done e)

/-- behind a round: the state goes on, or the loop is left with t -/
def LQ {S X T : Type} (n : Nat) (w0 : World) (W : List Nat) (I : S → X → Prop) (Es : S → X → Env) (Ls : S → X → List Blk) (t : T) (Q : Exit → Act → World → Prop) (y : S ⊕ T) : Exit → Act → World → Prop :=
  Exit.then (fun a w => ∃ s x, y = .inl s ∧ I s x ∧ Ok n w0 W (Es s x) (Ls s x) a w) (fun e a w => ∃ t', y = .inr t' ∧ (t' = t → Q e a w))

instance {S X T : Type} {I : S → X → Prop} {Es : S → X → Env} {Ls : S → X → List Blk} {t : T} {y : S ⊕ T} [h : NoP Q] : NoP (LQ n w0 W I Es Ls t Q y) := ⟨fun c a d v w ⟨t', e, hq⟩ => ⟨t', e, fun e => h.no c a d v w (hq e)⟩⟩

/-- the loop is left -/
theorem jx_leave {S X T : Type} {I : S → X → Prop} {Es : S → X → Env} {Ls : S → X → List Blk} {t : T} {y : S ⊕ T} {i : Nat} (t' : T) (hy : y = .inr t') (h : t' = t → JX n w0 W (.exit i) E L Q) :
    JX n w0 W (.exit i) E L (LQ n w0 W I Es Ls t Q y) := fun a w hok => ⟨t', hy, fun e => h e a w hok⟩
theorem jx_leaver {S X T : Type} {I : S → X → Prop} {Es : S → X → Env} {Ls : S → X → List Blk} {t : T} {y : S ⊕ T} (t' : T) (hy : y = .inr t') (h : t' = t → JX n w0 W .ret E L Q) :
    JX n w0 W .ret E L (LQ n w0 W I Es Ls t Q y) := fun a w hok => ⟨t', hy, fun e => h e a w hok⟩

/-! ### rows of elements, addresses, loads and stores at an index -/

def aB : Option Addr → Nat | some a => a.block | none => 0
def aO : Option Addr → Nat | some a => a.off | none => 0

/-- the cells from an address on -/
def At (w : World) (b off : Nat) (vs : List Value) : Prop := ∀ i v, vs[i]? = some v → w.cell? ⟨b, off + i, none⟩ = some v

/-- a row of elements of m cells each -/
structure Rw {S : Type} (w : World) (a : Option Addr) (m : Nat) (enc : S → List Value) (xs : List S) : Prop where
  spot : xs ≠ [] → a = some ⟨aB a, aO a, none⟩ ∧ aB a < w.heap.size
  cell : ∀ j x, xs[j]? = some x → At w (aB a) (aO a + j * m) (enc x)

theorem Mem.cellOld {w : World} (h : Mem w0 W L w) {b : Nat} (hb : b < w0.heap.size) (hW : b ∉ W) (o : Nat) : w.cell? ⟨b, o, none⟩ = w0.cell? ⟨b, o, none⟩ := by
  simp only [World.cell?, h.old b hb hW]

/-- a row that was there when the function was called -/
theorem Mem.exRow {S : Type} {w : World} (h : Mem w0 W L w) {a : Option Addr} {m : Nat} {enc : S → List Value} {xs : List S} (hr : Rw w0 a m enc xs) (hW : aB a ∉ W) : Rw w a m enc xs := by
  constructor
  · intro hne; exact ⟨(hr.spot hne).1, Nat.lt_of_lt_of_le (hr.spot hne).2 h.size⟩
  · intro j x hx i v hv
    have hne : xs ≠ [] := by rintro rfl; simp at hx
    rw [h.cellOld (hr.spot hne).2 hW]
    exact hr.cell j x hx i v hv

/-- the cells of a known row: its elements' cells, and what is behind them -/
def row {S : Type} (enc : S → List Value) (xs : List S) (sp : List Value) : List Value := xs.flatMap enc ++ sp

omit dsW in
theorem flatMap_get {S : Type} {enc : S → List Value} {m : Nat} (hm : ∀ x, (enc x).length = m) : ∀ (xs : List S) (j : Nat) (x : S), xs[j]? = some x → ∀ i v, (enc x)[i]? = some v → (xs.flatMap enc)[j * m + i]? = some v := by
  intro xs
  induction xs with
  | nil => intro j x h; simp at h
  | cons y xs ih =>
    intro j x hx i v hv
    simp only [List.flatMap_cons]
    cases j with
    | zero =>
      simp at hx; subst hx
      have : i < (enc y).length := by
        rcases Nat.lt_or_ge i (enc y).length with h | h
        · exact h
        · simp [List.getElem?_eq_none h] at hv
      rw [Nat.zero_mul, Nat.zero_add, List.getElem?_append_left this]; exact hv
    | succ j =>
      simp at hx
      have h := ih j x hx i v hv
      rw [List.getElem?_append_right (by rw [hm, Nat.succ_mul]; omega)]
      rw [hm, show (j + 1) * m + i - m = j * m + i from by rw [Nat.succ_mul]; omega]
      exact h

theorem Mem.ownRow {S : Type} {w : World} (h : Mem w0 W L w) {hh : Nat} {o : Option Nat} {T : TypeId} {enc : S → List Value} {xs : List S} {sp : List Value}
    (hx : L[hh]? = some ⟨o, T, row enc xs sp⟩) (ho : o = none → xs = []) {m : Nat} (hm : ∀ x, (enc x).length = m) : Rw w (o.map fun b => ⟨b, 0, none⟩) m enc xs := by
  have hin := List.mem_of_getElem? hx
  cases o with
  | none =>
    have := ho rfl
    subst this
    exact ⟨fun h => absurd rfl h, fun j x hj => by simp at hj⟩
  | some b =>
  constructor
  · intro _
    exact ⟨rfl, h.lt hin rfl⟩
  · intro j x hj i v hv
    have hf := flatMap_get hm xs j x hj i v hv
    have : (row enc xs sp)[j * m + i]? = some v := by
      unfold row
      rw [List.getElem?_append_left]
      · exact hf
      · rcases Nat.lt_or_ge (j * m + i) (xs.flatMap enc).length with h' | h'
        · exact h'
        · simp [List.getElem?_eq_none h'] at hf
    have := h.cell hin rfl (j * m + i) v this
    simpa [aB, aO, Nat.add_assoc] using this

/-- an element's address: the slice or the array, the length, the index, the element's cells -/
def idxQ (P : Program) (E : Env) : Op → Option (Option Addr × Nat × Int × Nat)
  | .indexAddr T x i => match evo E [] x, evo E [] i, P.underlying T with
    | some (.slice a len _), some (.int _ j), some (.slice el) => (P.info? el).map fun t => (a, len, j, t.size)
    | some (.pointer (some a)), some (.int _ j), some (.array len el) => (P.info? el).map fun t => (some a, len, j, t.size)
    | _, _, _ => none
  | _ => none

omit dsW in
theorem run_sizeOf {el : TypeId} {t : TypeInfo} {w : World} (h : P.info? el = some t) : (sizeOf el).run P w = .ok t.size w := by
  simp [sizeOf, typeInfo, program, Sem.run, h]

omit dsW in
theorem addr_add (b o m : Nat) : (Addr.add ⟨b, o, none⟩ m) = ⟨b, o + m, none⟩ := by
  unfold Addr.add; split <;> simp_all

omit dsW in
theorem idx_run {o : Oper} {a : Option Addr} {len s : Nat} {j : Int} {w : World} (hq : idxQ P E o.op = some (a, len, j, s)) (h0 : 0 ≤ j) (h1 : j < len)
    (ha : a = some ⟨aB a, aO a, none⟩) : (execOp (ev E []) o).run P w = .ok (.value (.pointer (some ⟨aB a, aO a + j.toNat * s, none⟩))) w := by
  unfold idxQ at hq
  split at hq
  · rename_i T x i ho
    split at hq
    · rename_i a' len' cap k j' el hx hi hT
      simp only [Option.map_eq_some_iff, Prod.mk.injEq] at hq
      obtain ⟨t, ht, rfl, rfl, rfl, rfl⟩ := hq
      have ex : ev E [] x = .slice a' len' cap := by simp [ev, hx]
      have ei : ev E [] i = .int k j' := by simp [ev, hi]
      cases a' with
      | none => cases ha
      | some a' =>
        obtain ⟨b, off, sp⟩ := a'
        simp only [aB, aO, Option.some.injEq, Addr.mk.injEq, true_and] at ha
        subst ha
        simp [execOp, ho, Instr.indexAt, ex, ei, asIntOf, underlying, program, Sem.run, hT, h0, h1, run_sizeOf ht, addr_add, aB, aO]
    · rename_i a' k j' len' el hx hi hT
      simp only [Option.map_eq_some_iff, Prod.mk.injEq] at hq
      obtain ⟨t, ht, rfl, rfl, rfl, rfl⟩ := hq
      have ex : ev E [] x = .pointer (some a') := by simp [ev, hx]
      have ei : ev E [] i = .int k j' := by simp [ev, hi]
      obtain ⟨b, off, sp⟩ := a'
      simp only [aB, aO, Option.some.injEq, Addr.mk.injEq, true_and] at ha
      subst ha
      simp [execOp, ho, Instr.indexAt, Instr.sureAddr, ex, ei, asIntOf, underlying, program, Sem.run, hT, h0, h1, run_sizeOf ht, addr_add, aB, aO]
    · simp at hq
  · simp at hq

theorem p_idx {K : Act → World → Prop} {k : Nat} (m : Nat) (a : Option Addr) (len : Nat) (j : Int) (s : Nat) (hp : pl n ops k m E = pr n ops k m E) (hq : idxQ P E (opAt ops k).op = some (a, len, j, s)) (h0 : 0 ≤ j) (h1 : j < len)
    (ha : a = some ⟨aB a, aO a, none⟩)
    (hk : JK n w0 W K (putE E (opAt ops k) (.pointer (some ⟨aB a, aO a + j.toNat * s, none⟩))) L) : JP P n w0 W ops k K E L Q :=
  p_v m hp _ (fun _ _ => idx_run hq h0 h1 ha) hk

/-- a load: the address, whether it is of a struct or an array, the cells -/
def ldQ (P : Program) (E : Env) : Op → Option (Nat × Nat × Bool × Nat)
  | .load T x => match evo E [] x, P.underlying T, P.info? T with
    | some (.pointer (some ⟨b, off, none⟩)), some d, some t => some (b, off, (match d with | .struct _ => true | .array _ _ => true | _ => false), t.size)
    | _, _, _ => none
  | _ => none

def ldV (agg : Bool) (vs : List Value) : Value := bif agg then .agg vs.toArray else vs.headD undef

omit dsW in
theorem loadCells_run {b off : Nat} {vs : List Value} {w : World} (h : At w b off vs) : ∀ (m i : Nat) (acc : Array Value), i + m = vs.length →
    (loadCellsFrom ⟨b, off, none⟩ i m acc).run P w = .ok (acc ++ (vs.drop i).toArray) w := by
  intro m
  induction m with
  | zero => intro i acc he; simp [loadCellsFrom, List.drop_of_length_le (show vs.length ≤ i by omega)]
  | succ m ih =>
    intro i acc he
    have hlt : i < vs.length := by omega
    have hc := h i vs[i] (by simp [hlt])
    rw [loadCellsFrom]
    simp only [Sem.run_bind, load, Sem.run, addr_add, hc, Result.andThen_ok]
    rw [ih (i + 1) _ (by omega), List.drop_eq_getElem_cons hlt]
    simp

omit dsW in
theorem ld_run {o : Oper} {b off s : Nat} {agg : Bool} {vs : List Value} {w : World} (hq : ldQ P E o.op = some (b, off, agg, s)) (hl : vs.length = s) (h1 : agg = true ∨ s = 1) (h : At w b off vs) :
    (execOp (ev E []) o).run P w = .ok (.value (ldV agg vs)) w := by
  unfold ldQ at hq
  split at hq
  · rename_i T x ho
    split at hq
    · rename_i b' off' d t hx hT ht
      simp only [Option.some.injEq, Prod.mk.injEq] at hq
      obtain ⟨rfl, rfl, hag, rfl⟩ := hq
      have ex : ev E [] x = .pointer (some ⟨b', off', none⟩) := by simp [ev, hx]
      have hagg : (isAgg T).run P w = .ok agg w := by
        rw [← hag]
        unfold isAgg
        simp only [Sem.run_bind, underlying, program, Sem.run, hT, Result.andThen_ok, Sem.run_pure]
        cases d <;> rfl
      simp only [execOp, ho, Instr.loadAt, ex, Instr.sureAddr, Sem.run_bind, Sem.run_pure, Result.andThen_ok, loadVar, hagg]
      cases agg with
      | true =>
        simp only [if_true, Sem.run_bind, run_sizeOf ht, Result.andThen_ok, loadCells, loadCells_run h t.size 0 #[] (by omega), Sem.run_pure, ldV, cond_true]
        simp
      | false =>
        have h1 : t.size = 1 := by rcases h1 with h1 | h1; cases h1; exact h1
        obtain ⟨v, rfl⟩ : ∃ v, vs = [v] := List.length_eq_one_iff.1 (by omega)
        have hc := h 0 v (by simp)
        simp at hc
        simp [load, Sem.run, hc, ldV]
    · simp at hq
  · simp at hq

theorem p_ld {K : Act → World → Prop} {k : Nat} (m : Nat) (b off : Nat) (agg : Bool) (vs : List Value) (hp : pl n ops k m E = pr n ops k m E) (hq : ldQ P E (opAt ops k).op = some (b, off, agg, vs.length))
    (h1 : (agg || Nat.beq vs.length 1) = true) (h : ∀ w, Mem w0 W L w → At w b off vs) (hk : JK n w0 W K (putE E (opAt ops k) (ldV agg vs)) L) : JP P n w0 W ops k K E L Q :=
  p_v m hp _ (fun w hm => ld_run hq rfl (by
    cases agg with
    | true => exact .inl rfl
    | false => exact .inr (Nat.eq_of_beq_eq_true (by simpa using h1))) (h w hm)) hk

omit dsW in
theorem At.sub {w : World} {b off : Nat} {vs : List Value} (h : At w b off vs) (f l : Nat) : At w b (off + f) ((vs.drop f).take l) := by
  intro i v hv
  have : vs[f + i]? = some v := by
    rw [List.getElem?_take] at hv
    split at hv
    · rwa [List.getElem?_drop] at hv
    · cases hv
  have := h (f + i) v this
  rwa [← Nat.add_assoc] at this


/-! ### stores at an index -/

def spl : List Value → Nat → List Value → List Value
  | cs, _, [] => cs
  | cs, o, v :: vs => spl (cs.set o v) (o + 1) vs

def stQ (P : Program) (E : Env) : Op → Option (Nat × Nat × List Value)
  | .store T x y => match evo E [] x, evo E [] y, P.info? T with
    | some (.pointer (some ⟨b, off, none⟩)), some v, some t => bif Nat.beq v.cells.size t.size && v.cells.toList.all isCell then some (b, off, v.cells.toList) else none
    | _, _, _ => none
  | _ => none

omit dsW in
theorem set_self {L : List Blk} {i : Nat} {x : Blk} (h : L[i]? = some x) : L.set i x = L := by
  induction L generalizing i with
  | nil => rfl
  | cons y L ih =>
    cases i with
    | zero => simp at h; subst h; rfl
    | succ i => simp at h; simp [ih h]

theorem storeCells_run {hh d : Nat} {T : TypeId} : ∀ (vs : List Value) (off i : Nat) (cs : List Value) (L : List Blk) (w : World), Mem w0 W L w → L[hh]? = some ⟨some d, T, cs⟩ → off + i + vs.length ≤ cs.length →
    (∀ v ∈ vs, isCell v = true) → ∃ w', (storeCells ⟨d, off, none⟩ vs i).run P w = .ok () w' ∧ Mem w0 W (L.set hh ⟨some d, T, spl cs (off + i) vs⟩) w' := by
  intro vs
  induction vs with
  | nil =>
    intro off i cs L w hm hi _ _
    refine ⟨w, rfl, ?_⟩
    simp only [spl]
    rw [set_self hi]
    exact hm
  | cons v vs ih =>
    intro off i cs L w hm hi hl hv
    simp only [List.length_cons] at hl
    have hlt : off + i < cs.length := by omega
    have hin := List.mem_of_getElem? hi
    have h1 := hm.cell hin rfl (off + i) cs[off + i] (by simp [hlt])
    have hf := hm.frozen hin rfl (off + i)
    have h2 := hm.set hi (off + i) v
    have hii := hv v (by simp)
    have hlL : hh < L.length := by
      rcases Nat.lt_or_ge hh L.length with h' | h'
      · exact h'
      · rw [List.getElem?_eq_none h'] at hi; cases hi
    obtain ⟨w', hr, hm'⟩ := ih off (i + 1) (cs.set (off + i) v) _ _ h2 (by simp [hlL]) (by simp; omega) (fun u hu => hv u (by simp [hu]))
    refine ⟨w', ?_, ?_⟩
    · have hrun : (store ⟨d, off + i, none⟩ v).run P w = .ok () (w.setCell ⟨d, off + i, none⟩ v) := by
        cases v with
        | agg cs => cases hii
        | tuple cs => cases hii
        | _ => simp only [store, Sem.run, h1, hf, Bool.false_eq_true, if_false]
      rw [storeCells]
      simp only [Sem.run_bind, addr_add, hrun, Result.andThen_ok]
      exact hr
    · simpa [spl, Nat.add_assoc] using hm'

theorem p_st {K : Act → World → Prop} {k : Nat} (m hh : Nat) (b off : Nat) (vs : List Value) (T : TypeId) (cs cs' : List Value) (hp : pl n ops k m E = pr n ops k m E) (hq : stQ P E (opAt ops k).op = some (b, off, vs))
    (hL : L[hh]? = some ⟨some b, T, cs⟩) (hlt : off + vs.length ≤ cs.length) (hcs : spl cs off vs = cs')
    (hk : JK n w0 W K (putE E (opAt ops k) undef) (L.set hh ⟨some b, T, cs'⟩)) : JP P n w0 W ops k K E L Q := by
  have h := pre_ok hp
  intro a w hok
  have hw := gok_wanted hok h.2.1
  unfold wpOp
  simp only [h.1, hw, if_true]
  refine .inl ?_
  unfold Oper.wp
  rw [exec_known hok (G := []) (by simp) h.2.2.2.1 h.2.2.2.2]
  unfold stQ at hq
  split at hq
  · rename_i T' x y ho
    split at hq
    · rename_i b' off' v t hx hy ht
      cases hc : (Nat.beq v.cells.size t.size && v.cells.toList.all isCell) with
      | false => rw [hc] at hq; simp at hq
      | true =>
        rw [hc] at hq
        simp only [cond_true, Option.some.injEq, Prod.mk.injEq] at hq
        obtain ⟨rfl, rfl, rfl⟩ := hq
        simp only [Bool.and_eq_true, List.all_eq_true] at hc
        have hsz := Nat.eq_of_beq_eq_true hc.1
        obtain ⟨w', hr, hm'⟩ := storeCells_run (P := P) v.cells.toList off' 0 cs L w hok.mem hL (by omega) hc.2
        have ex : ev E [] x = .pointer (some ⟨b', off', none⟩) := by simp [ev, hx]
        have ey : ev E [] y = v := by simp [ev, hy]
        have : (execOp (ev E []) (opAt ops k)).run P w = .ok .skip w' := by
          simp only [execOp, ho, Instr.storeAt, ex, ey, Instr.sureAddr, Sem.run_bind, Sem.run_pure, Result.andThen_ok, storeVar, run_sizeOf ht, hsz, ne_eq, not_true_eq_false, if_false]
          simp only [hr, Result.andThen_ok]
        rw [this]
        simp only [Oper.upon]
        rw [Nat.add_zero, hcs] at hm'
        exact hk _ _ (putE_ok (hok.mem' hm') h.2.2.1 undef)
    · simp at hq
  · simp at hq

omit dsW in
theorem spl_len : ∀ (vs cs : List Value) (o : Nat), (spl cs o vs).length = cs.length := by
  intro vs
  induction vs with
  | nil => intro cs o; rfl
  | cons v vs ih => intro cs o; rw [spl, ih]; simp

omit dsW in
theorem spl_left : ∀ (vs a b : List Value) (o : Nat), o + vs.length ≤ a.length → spl (a ++ b) o vs = spl a o vs ++ b := by
  intro vs
  induction vs with
  | nil => intro a b o _; rfl
  | cons v vs ih =>
    intro a b o h
    simp only [List.length_cons] at h
    rw [spl, spl, List.set_append_left _ _ (by omega), ih _ _ _ (by simp; omega)]

omit dsW in
theorem spl_right : ∀ (vs a b : List Value) (o : Nat), spl (a ++ b) (a.length + o) vs = a ++ spl b o vs := by
  intro vs
  induction vs with
  | nil => intro a b o; rfl
  | cons v vs ih =>
    intro a b o
    rw [spl, spl, List.set_append_right _ _ (by omega)]
    have : a.length + o - a.length = o := by omega
    rw [this, Nat.add_assoc, ih]

omit dsW in
/-- a store into an element of a known row -/
theorem spl_row {S : Type} {enc : S → List Value} {m : Nat} (hm : ∀ x, (enc x).length = m) {f : Nat} {vs : List Value} {y : S} : ∀ {xs : List S} {sp : List Value} {j : Nat} {x : S}, xs[j]? = some x → f + vs.length ≤ m →
    spl (enc x) f vs = enc y → spl (row enc xs sp) (j * m + f) vs = row enc (xs.set j y) sp := by
  intro xs
  induction xs with
  | nil => intro sp j x h; simp at h
  | cons z xs ih =>
    intro sp j x hj hf he
    unfold row
    simp only [List.flatMap_cons, List.append_assoc]
    cases j with
    | zero =>
      simp at hj; subst hj
      rw [Nat.zero_mul, Nat.zero_add, spl_left _ _ _ _ (by rw [hm]; exact hf), he]
      simp
    | succ j =>
      simp at hj
      have h := ih (sp := sp) hj hf he
      unfold row at h
      rw [show (j + 1) * m + f = (enc z).length + (j * m + f) from by rw [hm, Nat.succ_mul]; omega, spl_right, h]
      simp

/-! ### make -/

def mkQ (P : Program) (E : Env) : Op → Option (TypeId × Int × Int × Nat × Nat × List Value)
  | .makeSlice T x y => match evo E [] x, evo E [] y, P.underlying T with
    | some (.int _ l), some (.int _ c), some (.slice el) => match P.info? el with
      | some t => match t.zero with
        | some z => some (el, l, c, t.size, t.bytes, z.cells.toList)
        | none => none
      | none => none
    | _, _, _ => none
  | _ => none

omit dsW in
theorem range_copies (z : List Value) : ∀ c : Nat, (List.range (c * z.length)).map (fun i => z.toArray[i % z.length]!) = (List.replicate c z).flatten := by
  intro c
  induction c with
  | zero => simp
  | succ c ih =>
    rw [Nat.succ_mul, List.range_add, List.map_append, ih, List.replicate_succ', List.flatten_append]
    congr 1
    simp only [List.map_map, List.flatten_cons, List.flatten_nil, List.append_nil]
    apply List.ext_getElem
    · simp
    · intro i h1 h2
      simp at h1
      simp [Nat.mod_eq_of_lt h1, h1]

omit dsW in
theorem wrap_small {l : Int} (h0 : 0 ≤ l) (h1 : l ≤ 9223372036854775807) : IntKind.i64.wrap l = l := by
  have e : l % (2 ^ IntKind.i64.bits : Int) = l := Int.emod_eq_of_lt h0 (by simp [IntKind.bits]; omega)
  unfold IntKind.wrap
  simp only [e]
  rw [if_neg]
  simp [IntKind.bits, IntKind.signed]
  omega

omit dsW in
theorem mk_run {o : Oper} {el : TypeId} {l c : Int} {s bytes : Nat} {z : List Value} {w : World} (hq : mkQ P E o.op = some (el, l, c, s, bytes, z)) (hc : c = l) (h0 : 0 ≤ l) (hb : 0 < bytes) (h1 : bytes * l ≤ 140737488355328)
    (hz : z.length = s) (hs : 0 < s) :
    (execOp (ev E []) o).run P w = .ok (.value (.slice (some ⟨w.heap.size, 0, none⟩) l.toNat l.toNat)) { w with heap := w.heap.push (.cells (List.replicate l.toNat z).flatten.toArray el (0, 0)) } := by
  subst hc
  have hl : c ≤ 140737488355328 := by
    have : (1 : Int) * c ≤ bytes * c := Int.mul_le_mul_of_nonneg_right (by omega) h0
    omega
  unfold mkQ at hq
  split at hq
  · rename_i T x y ho
    split at hq
    · rename_i k1 l' k2 c' el' hx hy hT
      split at hq
      · rename_i t ht
        split at hq
        · rename_i zv hzv
          simp only [Option.some.injEq, Prod.mk.injEq] at hq
          obtain ⟨rfl, rfl, rfl, rfl, rfl, rfl⟩ := hq
          have ex : ev E [] x = .int k1 c' := by simp [ev, hx]
          have ey : ev E [] y = .int k2 c' := by simp [ev, hy]
          have hw := wrap_small h0 (by omega)
          have hti : ∀ w : World, (typeInfo el').run P w = .ok t w := by intro w; simp [typeInfo, program, Sem.run, ht]
          have hzr : ∀ w : World, (zeroValue el').run P w = .ok zv w := by intro w; simp [zeroValue, hti, hzv]
          have hsr : ∀ w : World, (sizeOf el').run P w = .ok t.size w := by intro w; simp [sizeOf, hti]
          have c1 : ¬ (c' < 0) := by omega
          have c2 : ¬ ((t.bytes : Int) * c' > 2 ^ 48) := by omega
          have c3 : ¬ (c' > c') := by omega
          have hask : ∀ w : World, (askRoom (c'.toNat * t.bytes)).run P w = .ok () w := by intro w; unfold askRoom; split <;> simp [mark, Sem.run]
          have hz' : zv.cells.size = t.size := by simpa using hz
          simp only [execOp, ho, Instr.makeSlice, ex, ey, asInt, asIntOf, underlying, program, Sem.run_bind, Sem.run, hT, Result.andThen_ok, Sem.run_pure, hti, hw, hsr, hask]
          simp only [c1, c2, c3, decide_false, Bool.or_false, Bool.false_eq_true, if_false, false_or, or_false, or_self, Sem.run_bind, hask, Result.andThen_ok, hsr, Sem.run_pure]
          have hcells : (Array.map (fun x => zv.cells[x % zv.cells.size]!) (Array.range (c'.toNat * t.size))) = (List.replicate c'.toNat zv.cells.toList).flatten.toArray := by
            have h := range_copies zv.cells.toList c'.toNat
            rw [hz] at h
            rw [← h]
            apply Array.ext'
            simp [hz', List.range_eq_range', Array.toList_range]
          by_cases hn : c'.toNat * t.size = 0
          · have hc0 : c'.toNat = 0 := by
              rcases Nat.mul_eq_zero.1 hn with h | h
              · exact h
              · omega
            simp only [hn, if_true, Sem.run_bind, Sem.run_pure, Result.andThen_ok, newRow, newObj, Sem.run]
            have e : ∀ (f : Nat → Value), Array.map f (Array.range 0) = #[] := by intro f; apply Array.ext'; simp [Array.toList_range]
            simp [hc0, e]
          · simp only [hn, if_false, Sem.run_bind, hzr, Sem.run_pure, Result.andThen_ok, newRow, newObj, Sem.run, hcells]
        · simp at hq
      · simp at hq
    · simp at hq
  · simp at hq


omit dsW in
theorem flatMap_replicate {S : Type} (enc : S → List Value) (x : S) (c : Nat) : (List.replicate c x).flatMap enc = (List.replicate c (enc x)).flatten := by
  rw [List.flatMap_def, List.map_replicate]

/-- make([]T, l): a new row of l zero elements -/
theorem p_mk {K : Act → World → Prop} {S : Type} {k : Nat} (m : Nat) (el : TypeId) (l : Int) (s bytes : Nat) (enc : S → List Value) (x : S) (hp : pl n ops k m E = pr n ops k m E) (hq : mkQ P E (opAt ops k).op = some (el, l, l, s, bytes, enc x))
    (h0 : 0 ≤ l) (h1 : bytes * l ≤ 140737488355328) (hz : (Nat.beq (enc x).length s && Nat.blt 0 s && Nat.blt 0 bytes) = true)
    (hk : ∀ b, JK n w0 W K (putE E (opAt ops k) (.slice (some ⟨b, 0, none⟩) l.toNat l.toNat)) (L ++ [⟨some b, el, row enc (List.replicate l.toNat x) []⟩])) : JP P n w0 W ops k K E L Q := by
  have h := pre_ok hp
  intro a w hok
  have hw := gok_wanted hok h.2.1
  unfold wpOp
  simp only [h.1, hw, if_true]
  refine .inl ?_
  unfold Oper.wp
  simp only [Bool.and_eq_true] at hz
  rw [exec_known hok (G := []) (by simp) h.2.2.2.1 h.2.2.2.2, mk_run hq rfl h0 (blt hz.2) h1 (Nat.eq_of_beq_eq_true hz.1.1) (blt hz.1.2)]
  have hm := hok.mem.alloc (List.replicate l.toNat (enc x)).flatten.toArray el
  refine hk w.heap.size _ _ (putE_ok (hok.mem' ?_) h.2.2.1 _)
  have e : row enc (List.replicate l.toNat x) [] = (List.replicate l.toNat (enc x)).flatten := by simp [row, flatMap_replicate]
  rw [e]
  simpa using hm


/-! ### append -/

omit dsW in
theorem growBy_le (N : Nat) : ∀ (r c : Nat), c ≤ N → Builtin.growBy N r c ≤ 2 * N + 192 := by
  intro r
  induction r with
  | zero => intro c h; simp [Builtin.growBy]; omega
  | succ r ih =>
    intro c h
    unfold Builtin.growBy
    split
    · omega
    · rename_i hlt
      by_cases h2 : c + (c + 768) / 4 ≤ N
      · exact ih _ h2
      · cases r with
        | zero => simp [Builtin.growBy]; omega
        | succ r => unfold Builtin.growBy; rw [if_pos (by omega)]; omega

omit dsW in
theorem nextcap_le {need cap : Nat} (h : cap < need) : Builtin.nextslicecap need cap ≤ 2 * need + 512 := by
  unfold Builtin.nextslicecap
  split
  · omega
  · split
    · omega
    · exact Nat.le_trans (growBy_le need 4 cap (by omega)) (by omega)

omit dsW in
theorem cells_of_rw {S : Type} {w : World} {a : Option Addr} {m : Nat} {enc : S → List Value} {ys : List S} (hm : ∀ x, (enc x).length = m) (h : Rw w a m enc ys) : At w (aB a) (aO a) (ys.flatMap enc) := by
  intro i v hv
  have hlen : ∀ zs : List S, (zs.flatMap enc).length = zs.length * m := by
    intro zs; induction zs with
    | nil => simp
    | cons z zs ih => simp only [List.flatMap_cons, List.length_append, ih, hm, List.length_cons, Nat.succ_mul]; omega
  have hi : i < ys.length * m := by
    rw [← hlen]
    rcases Nat.lt_or_ge i (ys.flatMap enc).length with h' | h'
    · exact h'
    · simp [List.getElem?_eq_none h'] at hv
  have hm0 : 0 < m := by
    rcases Nat.eq_zero_or_pos m with h' | h'
    · simp [h'] at hi
    · exact h'
  have hj : i / m < ys.length := by rw [Nat.div_lt_iff_lt_mul hm0]; exact hi
  have hx : ys[i / m]? = some ys[i / m] := by simp [hj]
  have hl : i % m < (enc ys[i / m]).length := by rw [hm]; exact Nat.mod_lt _ hm0
  have h1 := flatMap_get hm ys (i / m) _ hx (i % m) _ (List.getElem?_eq_getElem hl)
  rw [Nat.mul_comm, Nat.div_add_mod] at h1
  rw [h1] at hv
  have h2 := h.cell (i / m) _ hx (i % m) v (by rw [List.getElem?_eq_getElem hl]; exact hv)
  rw [Nat.add_assoc, Nat.mul_comm, Nat.div_add_mod] at h2
  exact h2

/-- the slice that is appended to, the slice whose elements are appended -/
def apQ (P : Program) (E : Env) : Op → Option (Option Addr × Nat × Nat × Option Addr × Nat × TypeId × Nat × Nat)
  | .call ⟨.builtin .append, as, ts⟩ => match as[0]?, as[1]?, ts[0]?, ts[1]? with
    | some s, some x, some sT, some xT => match evo E [] s, evo E [] x, P.underlying sT, P.underlying xT with
      | some (.slice base sl sc), some (.slice xa n _), some (.slice el), some (.slice _) => (P.info? el).map fun t => (base, sl, sc, xa, n, el, t.size, t.bytes)
      | _, _, _, _ => none
    | _, _, _, _ => none
  | _ => none

omit dsW in
theorem firstCells_run {w : World} {a : Option Addr} {size k c : Nat} {vs : List Value} (hl : vs.length = k * size) (ha : vs ≠ [] → a = some ⟨aB a, aO a, none⟩) (hn : a = none → vs = []) (hA : At w (aB a) (aO a) vs)
    (hz : vs = [] → k * size = 0) : (Builtin.firstCells size k (.slice a k c)).run P w = .ok vs.toArray w := by
  cases a with
  | none => rw [hn rfl]; simp [Builtin.firstCells]
  | some a =>
    unfold Builtin.firstCells
    by_cases hv : vs = []
    · subst hv
      have := hz rfl
      simp [loadCells, this, loadCellsFrom]
    · have h1 := ha hv
      obtain ⟨b, o, sp⟩ := a
      simp only [aB, aO, Option.some.injEq, Addr.mk.injEq, true_and] at h1
      subst h1
      have hA' : At w b o vs := hA
      have := loadCells_run (P := P) hA' (k * size) 0 #[] (by omega)
      simpa [loadCells] using this


omit dsW in
theorem ap_room {o : Oper} {base xa : Option Addr} {sl sc nn el size bytes : Nat} {w : World} {new : Array Value} (hq : apQ P E o.op = some (base, sl, sc, xa, nn, el, size, bytes))
    (hroom : sl + nn ≤ sc) {xc : Nat} (hnew : ∀ c, (Builtin.firstCells size nn (.slice xa nn c)).run P w = .ok new w) {w' : World}
    (hst : (match base with | some a => storeCells (a.add (sl * size)) new.toList | none => pure ()).run P w = .ok () w') :
    (execOp (ev E []) o).run P w = .ok (.value (.slice base (sl + nn) sc)) w' := by
  unfold apQ at hq
  split at hq
  · rename_i as ts ho
    split at hq
    · rename_i s x sT xT has hax hts htx
      split at hq
      · rename_i base' sl' sc' xa' n' xcap el' el2 hs hx hsT hxT
        simp only [Option.map_eq_some_iff, Prod.mk.injEq] at hq
        obtain ⟨t, ht, rfl, rfl, rfl, rfl, rfl, rfl, rfl, rfl⟩ := hq
        have es : ev E [] s = .slice base' sl' sc' := by simp [ev, hs]
        have ex : ev E [] x = .slice xa' n' xcap := by simp [ev, hx]
        have h1 : (as.map (ev E []))[0]? = some (.slice base' sl' sc') := by simp [has, es]
        have h2 : (as.map (ev E []))[1]? = some (.slice xa' n' xcap) := by simp [hax, ex]
        have hx2 := hnew xcap
        simp only [execOp, ho, resolve, invoke, builtin, Builtin.append_, Sem.run_bind, Sem.run_pure, Result.andThen_ok, h1, h2, hts, htx, underlying, program, Sem.run, hsT, hxT, run_sizeOf ht, Builtin.lenOf, Bool.false_eq_true, if_false, hroom, if_true, Bool.not_false, hx2]
        cases base' with
        | none =>
          simp only [Sem.run_pure, Result.ok.injEq, true_and] at hst
          subst hst
          simp
        | some a =>
          simp only at hst
          simp [hst]
      · simp at hq
    · simp at hq
  · simp at hq

omit dsW in
theorem ap_grow {o : Oper} {base xa : Option Addr} {sl sc nn el size bytes : Nat} {w : World} {old new : Array Value} (hq : apQ P E o.op = some (base, sl, sc, xa, nn, el, size, bytes))
    (hroom : ¬ sl + nn ≤ sc) (hold : ∀ w', w'.heap = w.heap → (Builtin.firstCells size sl (.slice base sl sc)).run P w' = .ok old w') (hnew : ∀ c w', w'.heap = w.heap → (Builtin.firstCells size nn (.slice xa nn c)).run P w' = .ok new w')
    (hbig : (sl + nn) ≤ 4294967296) (hb : bytes ≤ 4096) (hb0 : 0 < bytes) (zv : Value) (hz : (P.info? el).bind (·.zero) = some zv) (hzs : zv.cells.size = size) :
    ∃ (c' : Nat) (rest : List Value) (w' : World), sl + nn ≤ c' ∧ rest.length = (c' - (sl + nn)) * size ∧ w'.heap = w.heap.push (.cells ((old ++ new).toList ++ rest).toArray el (0, 0)) ∧ w'.os = w.os ∧ w'.tape = w.tape ∧ w'.output = w.output ∧ w.drawn ≤ w'.drawn ∧
      (execOp (ev E []) o).run P w = .ok (.value (.slice (some ⟨w.heap.size, 0, none⟩) (sl + nn) c')) w' := by
  unfold apQ at hq
  split at hq
  · rename_i as ts ho
    split at hq
    · rename_i s x sT xT has hax hts htx
      split at hq
      · rename_i base' sl' sc' xa' n' xcap el' el2 hs hx hsT hxT
        simp only [Option.map_eq_some_iff, Prod.mk.injEq] at hq
        obtain ⟨t, ht, rfl, rfl, rfl, rfl, rfl, rfl, rfl, rfl⟩ := hq
        have es : ev E [] s = .slice base' sl' sc' := by simp [ev, hs]
        have ex : ev E [] x = .slice xa' n' xcap := by simp [ev, hx]
        have h1 : (as.map (ev E []))[0]? = some (.slice base' sl' sc') := by simp [has, es]
        have h2 : (as.map (ev E []))[1]? = some (.slice xa' n' xcap) := by simp [hax, ex]
        have hti : ∀ w : World, (typeInfo el').run P w = .ok t w := by intro w; simp [typeInfo, program, Sem.run, ht]
        rw [ht] at hz
        simp only [Option.bind_some] at hz
        have hzr : ∀ w : World, (zeroValue el').run P w = .ok zv w := by intro w; simp [zeroValue, hti, hz]
        have hcap := nextcap_le (show sc' < sl' + n' by omega)
        have c1 : ¬ (((sl' + n' : Nat) : Int) > IntKind.i64.max ∧ (False ∨ t.bytes = 0)) := by rintro ⟨_, h | h⟩; exact h; omega
        have c2 : ¬ (Builtin.nextslicecap (sl' + n') sc' * t.bytes > 2 ^ 48) := by
          have := Nat.mul_le_mul hcap hb
          omega
        let c' := (sl' + n') + w.tape w.drawn (.appendCap (sl' + n') sc' el') % (2 ^ 63 - (sl' + n'))
        let wd : World := { w with drawn := w.drawn + 1 }
        have hask : ∀ (b : Nat) (w : World), (askRoom b).run P w = .ok () w := by intro b w; unfold askRoom; split <;> simp [mark, Sem.run]
        have hch : (choose (.appendCap (sl' + n') sc' el')).run P w = .ok c' wd := by simp [choose, Sem.run, Question.forced, Question.cut, c', wd]
        have ho2 := hold wd rfl
        have hn2 := hnew xcap wd rfl
        refine ⟨c', (Builtin.zeroCells zv.cells (c' - (sl' + n'))).toList, { wd with heap := wd.heap.push (.cells (old ++ new ++ Builtin.zeroCells zv.cells (c' - (sl' + n'))) el' (0, 0)) }, by omega, ?_, ?_, rfl, rfl, rfl, Nat.le_succ _, ?_⟩
        · simp [Builtin.zeroCells, hzs]
        · show w.heap.push _ = w.heap.push _
          congr 2
          apply Array.ext'
          simp
        · simp only [execOp, ho, resolve, invoke, builtin, Builtin.append_, Sem.run_bind, Sem.run_pure, Result.andThen_ok, h1, h2, hts, htx, underlying, program, Sem.run, hsT, hxT, run_sizeOf ht, Builtin.lenOf, Bool.false_eq_true, if_false, hroom, hti, c1, c2, hch, hask, ho2, hn2, Bool.not_false, if_true, hzr, newRow, newObj]
          rfl
      · simp at hq
    · simp at hq
  · simp at hq


omit dsW in
theorem flatMap_len {S : Type} {enc : S → List Value} {m : Nat} (hm : ∀ x, (enc x).length = m) (zs : List S) : (zs.flatMap enc).length = zs.length * m := by
  induction zs with
  | nil => simp
  | cons z zs ih => simp only [List.flatMap_cons, List.length_append, ih, hm, List.length_cons, Nat.succ_mul]; omega

omit dsW in
theorem spl_all : ∀ (vs b : List Value), vs.length ≤ b.length → spl b 0 vs = vs ++ b.drop vs.length := by
  intro vs
  induction vs with
  | nil => intro b _; simp [spl]
  | cons v vs ih =>
    intro b h
    cases b with
    | nil => simp at h
    | cons x b =>
      simp only [List.length_cons] at h
      have h2 := spl_right vs [v] b 0
      simp only [List.length_cons, List.length_nil, Nat.zero_add, Nat.add_zero, List.singleton_append] at h2
      simp only [spl, List.set_cons_zero, Nat.zero_add]
      rw [h2, ih b (by omega)]
      simp

omit dsW in
theorem enc_cells {S : Type} {enc : S → List Value} (hc : ∀ x, (enc x).all isCell = true) (ys : List S) : ∀ v ∈ ys.flatMap enc, isCell v = true := by
  intro v hv
  obtain ⟨y, _, hy⟩ := List.mem_flatMap.1 hv
  exact List.all_eq_true.1 (hc y) v hy

omit dsW in
theorem nodup_set_new {β : Nat} {x : Blk} (hx : x.b = some β) : ∀ {L : List Blk} {i : Nat}, (L.filterMap Blk.b).Nodup → (∀ y ∈ L, y.b ≠ some β) → ((L.set i x).filterMap Blk.b).Nodup := by
  intro L
  induction L with
  | nil => intro i h _; simp
  | cons y L ih =>
    intro i h hn
    have hd' : (L.filterMap Blk.b).Nodup := by
      rw [List.filterMap_cons] at h
      split at h
      · exact h
      · exact (List.nodup_cons.1 h).2
    cases i with
    | zero =>
      rw [List.set_cons_zero, List.filterMap_cons, hx]
      refine List.nodup_cons.2 ⟨?_, hd'⟩
      intro hm
      obtain ⟨z, hz, hzb⟩ := List.mem_filterMap.1 hm
      exact hn z (List.mem_cons_of_mem _ hz) hzb
    | succ i =>
      rw [List.set_cons_succ, List.filterMap_cons]
      have h2 := ih (i := i) hd' (fun z hz => hn z (List.mem_cons_of_mem _ hz))
      split
      · exact h2
      · rename_i b hb
        refine List.nodup_cons.2 ⟨?_, h2⟩
        intro hm
        obtain ⟨z, hz, hzb⟩ := List.mem_filterMap.1 hm
        rcases List.mem_or_eq_of_mem_set hz with hz | rfl
        · rw [List.filterMap_cons, hb] at h
          exact (List.nodup_cons.1 h).1 (List.mem_filterMap.2 ⟨z, hz, hzb⟩)
        · rw [hx] at hzb
          exact hn y List.mem_cons_self (hb.trans hzb.symm)

/-- a new block in the place of a known one -/
theorem Mem.renew {w w' : World} (h : Mem w0 W L w) {i : Nat} {T : TypeId} {cs : List Value} (hos : w'.os = w.os) (htp : w'.tape = w.tape) (hou : w'.output = w.output) (hdr : w.drawn ≤ w'.drawn)
    (hh : w'.heap = w.heap.push (.cells cs.toArray T (0, 0))) : Mem w0 W (L.set i ⟨some w.heap.size, T, cs⟩) w' := by
  refine ⟨hos.trans h.os, htp.trans h.tape, hou.trans h.output, h.drw.trans (Drw.of_le hdr), by rw [hh]; simp; exact Nat.le_succ_of_le h.size, ?_, ?_, ?_, ?_⟩
  · intro b hb hn
    have := h.size
    rw [hh, Array.getElem?_push, if_neg (by omega)]
    exact h.old b hb hn
  · intro x hx b hb
    rw [hh, Array.getElem?_push]
    rcases List.mem_or_eq_of_mem_set hx with hx | rfl
    · rw [if_neg (by have := h.lt hx hb; omega)]; exact h.own x hx b hb
    · cases hb; simp
  · exact nodup_set_new rfl h.dis (fun y hy e => absurd (h.lt hy e) (by omega))
  · intro x hx b hb
    rcases List.mem_or_eq_of_mem_set hx with hx | rfl
    · exact h.new x hx b hb
    · cases hb; exact .inr h.size

/-- append to a known row: whatever the new block, its room and what is behind the elements -/
theorem p_ap {K : Act → World → Prop} {S : Type} {k : Nat} (m hh : Nat) (o : Option Nat) (el : TypeId) (cap nn size bytes : Nat) (xa : Option Addr) (enc : S → List Value) (xs ys : List S) (sp : List Value) (zv : Value)
    (hp : pl n ops k m E = pr n ops k m E) (hq : apQ P E (opAt ops k).op = some (o.map fun b => ⟨b, 0, none⟩, xs.length, cap, xa, ys.length, el, size, bytes))
    (hL : L[hh]? = some ⟨o, el, row enc xs sp⟩) (hm : ∀ x, (enc x).length = size) (hc : ∀ x, (enc x).all isCell = true)
    (hsp : o ≠ none → xs.length ≤ cap ∧ sp.length = (cap - xs.length) * size) (ho : o = none → xs = [] ∧ cap = 0)
    (hys : ∀ w, Mem w0 W L w → Rw w xa size enc ys) (hbig : xs.length + ys.length ≤ 4294967296) (hz : (P.info? el).bind (·.zero) = some zv)
    (hb : (Nat.ble bytes 4096 && Nat.blt 0 bytes && Nat.blt 0 size && Nat.beq zv.cells.size size) = true)
    (hk : ∀ (o' : Option Nat) (cap' : Nat) (sp' : List Value), (o' ≠ none → (xs ++ ys).length ≤ cap' ∧ sp'.length = (cap' - (xs ++ ys).length) * size) → (o' = none → xs ++ ys = [] ∧ cap' = 0) →
      JK n w0 W K (putE E (opAt ops k) (.slice (o'.map fun b => ⟨b, 0, none⟩) (xs ++ ys).length cap')) (L.set hh ⟨o', el, row enc (xs ++ ys) sp'⟩)) : JP P n w0 W ops k K E L Q := by
  have h := pre_ok hp
  simp only [Bool.and_eq_true] at hb
  obtain ⟨⟨⟨hb1, hb2⟩, hb3⟩, hb4⟩ := hb
  have hb1 := Nat.le_of_ble_eq_true hb1
  have hb2 := blt hb2
  have hb3 := blt hb3
  have hb4 := Nat.eq_of_beq_eq_true hb4
  intro a w hok
  have hw := gok_wanted hok h.2.1
  unfold wpOp
  simp only [h.1, hw, if_true]
  refine .inl ?_
  unfold Oper.wp
  rw [exec_known hok (G := []) (by simp) h.2.2.2.1 h.2.2.2.2]
  have hin := List.mem_of_getElem? hL
  have hrw := hys w hok.mem
  have hxs : Rw w (o.map fun b => ⟨b, 0, none⟩) size enc xs := hok.mem.ownRow hL (fun e => (ho e).1) hm
  have fc : ∀ {S : Type} {enc : S → List Value} (zs : List S) (za : Option Addr) (c : Nat) (w' : World), w'.heap = w.heap → (∀ x, (enc x).length = size) → Rw w za size enc zs →
      (Builtin.firstCells size zs.length (.slice za zs.length c)).run P w' = .ok (zs.flatMap enc).toArray w' := by
    intro S enc zs za c w' hw' hme hr
    have hr' : Rw w' za size enc zs := by
      constructor
      · intro hne; rw [hw']; exact hr.spot hne
      · intro j x hj i v hv
        have := hr.cell j x hj i v hv
        simpa [World.cell?, hw'] using this
    refine firstCells_run (flatMap_len hme zs) ?_ ?_ (cells_of_rw hme hr') ?_
    · intro hne
      refine (hr.spot ?_).1
      rintro rfl; simp at hne
    · intro hn
      rcases zs with _ | ⟨z, zs⟩
      · rfl
      · have := (hr.spot (by simp)).1; rw [hn] at this; cases this
    · intro he
      have := flatMap_len hme zs
      rw [he] at this
      simpa using this.symm
  by_cases hroom : xs.length + ys.length ≤ cap
  · -- room
    cases o with
    | none =>
      obtain ⟨hx0, hc0⟩ := ho rfl
      have hy0 : ys = [] := by
        cases ys with
        | nil => rfl
        | cons y ys => simp only [hc0, List.length_cons] at hroom; omega
      subst hy0
      rw [ap_room hq hroom (xc := 0) (fun c => fc ([] : List S) xa c w rfl hm hrw) (w' := w) rfl]
      have h1 := hk none cap sp (fun e => absurd rfl e) (fun _ => ⟨by simp [hx0], hc0⟩)
      have e1 : L.set hh ⟨none, el, row enc (xs ++ []) sp⟩ = L := by rw [List.append_nil]; exact set_self hL
      rw [e1] at h1
      have := h1 _ w (putE_ok hok h.2.2.1 _)
      rw [Oper.upon_value]
      simpa using this
    | some b =>
      obtain ⟨hs1, hs2⟩ := hsp (by simp)
      have hfl := flatMap_len hm xs
      have hfy := flatMap_len hm ys
      have hmul : (cap - xs.length) * size = (cap - (xs.length + ys.length)) * size + ys.length * size := by
        rw [← Nat.add_mul]; congr 1; omega
      obtain ⟨w', hr, hm'⟩ := storeCells_run (P := P) (ys.flatMap enc) (xs.length * size) 0 (row enc xs sp) L w hok.mem hL (by simp only [row, List.length_append, hfl, hfy, hs2]; omega) (enc_cells hc ys)
      rw [ap_room hq hroom (xc := 0) (fun c => fc ys xa c w rfl hm hrw) (w' := w') (by simpa [addr_add] using hr)]
      have e1 : spl (row enc xs sp) (xs.length * size + 0) (ys.flatMap enc) = row enc (xs ++ ys) (sp.drop (ys.length * size)) := by
        unfold row
        rw [show xs.length * size + 0 = (xs.flatMap enc).length + 0 from by rw [hfl], spl_right, spl_all _ _ (by rw [hfy, hs2]; omega), hfy]
        simp
      rw [e1] at hm'
      have h1 := hk (some b) cap (sp.drop (ys.length * size)) (fun _ => ⟨by simpa using hroom, by simp only [List.length_drop, hs2, List.length_append]; omega⟩) (fun e => by cases e)
      have := h1 _ w' (putE_ok (hok.mem' hm') h.2.2.1 _)
      rw [Oper.upon_value]
      simpa using this
  · obtain ⟨c', rest, w', hc1, hc2, hw1, hw2, hw3, hw4, hw5, hr⟩ := ap_grow hq hroom (fun w' e => fc xs _ cap w' e hm hxs) (fun c w' e => fc ys xa c w' e hm hrw) hbig hb1 hb2 zv hz hb4
    rw [hr]
    have h1 := hk (some w.heap.size) c' rest (fun _ => ⟨by simpa using hc1, by simpa using hc2⟩) (fun e => by cases e)
    have hmm : Mem w0 W (L.set hh ⟨some w.heap.size, el, row enc (xs ++ ys) rest⟩) w' :=
      hok.mem.renew hw2 hw3 hw4 hw5 (by rw [hw1]; simp [row])
    have := h1 _ w' (putE_ok (hok.mem' hmm) h.2.2.1 _)
    rw [Oper.upon_value]
    simpa using this


/-! ### in the order of the text; in any order -/

theorem toO {k : Nat} (hk : Nat.blt k ops.size = true) (h : JP P n w0 W ops k (wpOps P ops Q ((List.range ops.size).drop (k + 1))) E L Q) : JO P n w0 W ops k E L Q := by
  intro a w hok
  rw [range_drop (blt hk), wpOps_cons]
  exact h a w hok

theorem jkO {k : Nat} (h : JO P n w0 W ops (k + 1) E L Q) : JK n w0 W (wpOps P ops Q ((List.range ops.size).drop (k + 1))) E L := h

def KD (P : Program) (w0 : World) (W : List Nat) (ops : Array Oper) (Q : Exit → Act → World → Prop) (Ls : List Blk) (done : List Nat) (fuel k : Nat) : Act → World → Prop :=
  fun a w => Mem w0 W Ls w ∧ wpAnyH P .any ops Q (Mem w0 W Ls) fuel ((listed ops done).setIfInBounds k true) a w

theorem Mem.less {w : World} (h : Mem w0 W L w) {L' : List Blk} (hL : ∀ x ∈ L', x ∈ L) (hd : (L'.filterMap Blk.b).Nodup) : Mem w0 W L' w :=
  ⟨h.os, h.tape, h.output, h.drw, h.size, h.old, fun x hx => h.own x (hL x hx), hd, fun x hx => h.new x (hL x hx)⟩

theorem Mem.less' {w : World} (h : Mem w0 W L w) {L' : List Blk} (hL : ∀ x ∈ L', ∀ c, x.b = some c → x ∈ L) (hd : (L'.filterMap Blk.b).Nodup) : Mem w0 W L' w :=
  ⟨h.os, h.tape, h.output, h.drw, h.size, h.old, fun x hx b hb => h.own x (hL x hx b hb) b hb, hd, fun x hx b hb => h.new x (hL x hx b hb) b hb⟩

/-- the blocks that hold throughout: those at some places -/
def at_ (L : List Blk) (l : List Nat) : List Blk := l.filterMap fun i => L[i]?

omit dsW in
theorem at_mem {L : List Blk} {l : List Nat} : ∀ x ∈ at_ L l, x ∈ L := by
  intro x hx
  obtain ⟨i, _, h⟩ := List.mem_filterMap.1 hx
  exact List.mem_of_getElem? h

theorem jc_draw {id : Nat} (Ls : List Blk) (N : Nat) (hm : P.follows .mixedOrders = true) (hN : ops.size = N) (h : JD P n w0 W ops Ls [] N E L Q) : JC P n w0 W (.region id ops true) E L Q := by
  intro a w hok
  subst hN
  refine wp_region_held (S := Mem w0 W Ls) hm (h a _ ?_)
  exact ⟨hok.sz, hok.df, hok.env, ⟨hok.mem.os, hok.mem.tape, hok.mem.output, hok.mem.drw.trans (Drw.of_le (Nat.le_succ _)), hok.mem.size, hok.mem.old, hok.mem.own, hok.mem.dis, hok.mem.new⟩⟩

theorem toD {Ls : List Blk} {done : List Nat} {fuel : Nat} (k : Nat) (hr : Region.ready .any ops (listed ops done) = [k]) (h : JP P n w0 W ops k (KD P w0 W ops Q Ls done fuel k) E L Q) :
    JD P n w0 W ops Ls done (fuel + 1) E L Q := by
  intro a w hok
  refine wpAnyH_all hr (by simp) ?_
  intro i hi
  simp only [List.mem_singleton] at hi
  subst hi
  exact h a w hok

theorem toD2 {Ls : List Blk} {done : List Nat} {fuel : Nat} (k1 k2 : Nat) (hr : Region.ready .any ops (listed ops done) = [k1, k2]) (h1 : JP P n w0 W ops k1 (KD P w0 W ops Q Ls done fuel k1) E L Q)
    (h2 : JP P n w0 W ops k2 (KD P w0 W ops Q Ls done fuel k2) E L Q) : JD P n w0 W ops Ls done (fuel + 1) E L Q := by
  intro a w hok
  refine wpAnyH_all hr (by simp) ?_
  intro i hi
  simp only [List.mem_cons, List.not_mem_nil, or_false] at hi
  rcases hi with rfl | rfl
  · exact h1 a w hok
  · exact h2 a w hok
theorem toD3 {Ls : List Blk} {done : List Nat} {fuel : Nat} (k1 k2 k3 : Nat) (hr : Region.ready .any ops (listed ops done) = [k1, k2, k3]) (h1 : JP P n w0 W ops k1 (KD P w0 W ops Q Ls done fuel k1) E L Q)
    (h2 : JP P n w0 W ops k2 (KD P w0 W ops Q Ls done fuel k2) E L Q) (h3 : JP P n w0 W ops k3 (KD P w0 W ops Q Ls done fuel k3) E L Q) : JD P n w0 W ops Ls done (fuel + 1) E L Q := by
  intro a w hok
  refine wpAnyH_all hr (by simp) ?_
  intro i hi
  simp only [List.mem_cons, List.not_mem_nil, or_false] at hi
  rcases hi with rfl | rfl | rfl
  · exact h1 a w hok
  · exact h2 a w hok
  · exact h3 a w hok

theorem jkD {Ls : List Blk} {done : List Nat} {fuel k : Nat} (hs : ∀ w, Mem w0 W L w → Mem w0 W Ls w) (h : JD P n w0 W ops Ls (k :: done) fuel E L Q) : JK n w0 W (KD P w0 W ops Q Ls done fuel k) E L :=
  fun a w hok => ⟨hs w hok.mem, h a w hok⟩

theorem jd_end {Ls : List Blk} {done : List Nat} {fuel : Nat} (hr : Region.ready .any ops (listed ops done) = []) (h : JX n w0 W .normal E L Q) : JD P n w0 W ops Ls done fuel E L Q :=
  fun a w hok => wpAnyH_done hr (h a w hok) fuel

/-- an operation of a chunk yields, in every world in which the blocks Ls hold -/
theorem oneF_yields {Ls : List Blk} {a : Act} {w : World} (hs0 : Mem w0 W Ls w) (hok : Ok n w0 W E L a w) {s : St} {r : Res} (hs : oneF P n ops Ls s E = some r)
    (hn : r.cn.map (·.1) = r.cn.map (·.2)) (hb : r.cb.map (·.1) = r.cb.map (·.2)) :
    ∃ o v, ops[s.i]? = some o ∧ YieldsIf P ops (Mem w0 W Ls) o v a ∧ Ok n w0 W r.E L (a.put o.dst v) w := by
  have hall : ∀ w', Mem w0 W Ls w' → Ok n w0 W E Ls a w' := fun w' hm => ⟨hok.sz, hok.df, hok.env, hm⟩
  have hlt := oneF_some hs
  refine ⟨ops[s.i], ?_⟩
  have ho : ops[s.i]? = some ops[s.i] := by simp [hlt]
  have hh := hok
  unfold oneF at hs
  cases hm : Nat.beq s.m 3 with
  | true =>
    rw [hm] at hs
    simp only [cond_true] at hs
    unfold skipF at hs
    rw [ho] at hs
    simp only at hs
    split at hs
    · rename_i j want d hg hd
      split at hs
      · rename_i e he
        split at hs
        · rename_i b hv
          cases hc : (Nat.blt d n && freeOf E d) with
          | false => rw [hc] at hs; simp at hs
          | true =>
            rw [hc] at hs
            simp only [cond_true, Option.some.injEq] at hs
            subst hs
            have hw := skb_sound hok hg he hv hb
            simp only [Bool.and_eq_true] at hc
            refine ⟨undef, ho, .inr ⟨hw, rfl⟩, ?_⟩
            rw [hd]
            exact hok.put (blt hc.1) hc.2 (by simp) (fun _ => rfl)
        · simp at hs
      · simp at hs
    · rename_i j want hg hd
      split at hs
      · rename_i e he
        split at hs
        · rename_i b hv
          simp only [Option.some.injEq] at hs
          subst hs
          have hw := skb_sound hok hg he hv hb
          refine ⟨undef, ho, .inr ⟨hw, rfl⟩, ?_⟩
          rw [hd]
          exact hok
        · simp at hs
      · simp at hs
    · simp at hs
  | false =>
    rw [hm] at hs
    simp only [cond_false] at hs
    unfold stepF at hs
    rw [ho] at hs
    simp only at hs
    split at hs
    · simp at hs
    · rename_i G cb hg
      have fin : ∀ (v : Value) (E' : Env), cb.map (·.1) = cb.map (·.2) → putF n E G (ops[s.i]).dst v = some E' →
          ((∀ x ∈ G, a.tmps.getD x.1 undef = .bool x.2) → ∀ w', Mem w0 W Ls w' → (execOp a.eval ops[s.i]).run P w' = .ok (.value v) w') →
          ∃ v, ops[s.i]? = some ops[s.i] ∧ YieldsIf P ops (Mem w0 W Ls) ops[s.i] v a ∧ Ok n w0 W E' L (a.put (ops[s.i]).dst v) w := by
        intro v E' hcb hp hr
        have hG := guard_sound hok hg hcb
        cases hwt : Region.wanted ops[s.i] (yielded ops a.tmps) with
        | true => exact ⟨v, ho, .inl ⟨hwt, hr (hG.1 hwt)⟩, putF_sound hok hp (fun _ => rfl)⟩
        | false =>
          refine ⟨undef, ho, .inr ⟨hwt, rfl⟩, putF_sound hok hp ?_⟩
          intro hall'
          have := hG.2 hall'
          rw [hwt] at this
          cases this
      split at hs
      · rename_i c x y hop _
        split at hs
        · rename_i b v h1 h2
          simp only [Option.map_eq_some_iff] at hs
          obtain ⟨E', hp, rfl⟩ := hs
          simp only [List.map_cons, List.cons.injEq] at hb
          refine fin v E' hb.2 hp ?_
          intro hal w' _
          have e1 := evo_sound hok hal h1
          have e2 := evo_sound hok hal h2
          simp [execOp, hop, e1, e2, hb.1, asBool, bind, Sem.bind, pure]
        · simp at hs
      · rename_i c x y hop _
        split at hs
        · rename_i b v h1 h2
          simp only [Option.map_eq_some_iff] at hs
          obtain ⟨E', hp, rfl⟩ := hs
          simp only [List.map_cons, List.cons.injEq] at hb
          refine fin v E' hb.2 hp ?_
          intro hal w' _
          have e1 := evo_sound hok hal h1
          have e2 := evo_sound hok hal h2
          simp [execOp, hop, e1, e2, hb.1, asBool, bind, Sem.bind, pure]
        · simp at hs
      · cases hpk : isPick (ops[s.i]).op with
        | true =>
          rw [hpk] at hs
          simp only [cond_true] at hs
          split at hs
          · rename_i v hv
            simp only [Option.map_eq_some_iff] at hs
            obtain ⟨E', hp, rfl⟩ := hs
            exact fin v E' hb hp (fun hal w' hm' => pickF_sound (hall w' hm') hv hal)
          · simp at hs
        | false =>
          rw [hpk] at hs
          simp only [cond_false] at hs
          split at hs
          · rename_i v cn hv
            simp only [Option.map_eq_some_iff] at hs
            obtain ⟨E', hp, rfl⟩ := hs
            exact fin v E' hb hp (fun hal w' hm' => valF_sound (hall w' hm') hv hn hal)
          · simp at hs

/-- the closed checks ahead of some takes -/
def drawOk (ops : Array Oper) : List Nat → List St → Bool
  | _, [] => true
  | done, s :: l => Region.free .any ops (listed ops done) s.i && (Region.ready .any ops (listed ops done)).contains s.i && drawOk ops (s.i :: done) l

theorem jd_f0 [NoP Q] {Ls : List Blk} (hsel : Region.noSelect ops = true) (hs : ∀ w, Mem w0 W L w → Mem w0 W Ls w) : ∀ (l : List St) {done : List Nat} {fuel : Nat} {E : Env}, drawOk ops done l = true → cl (chunk P n ops Ls l E) = cr (chunk P n ops Ls l E) →
    JD P n w0 W ops Ls ((l.map St.i).reverse ++ done) fuel (gE (chunk P n ops Ls l E)) L Q → JD P n w0 W ops Ls done (fuel + l.length) E L Q := by
  intro l
  induction l with
  | nil => intro done fuel E _ _ h; exact h
  | cons s l ih =>
    intro done fuel E hd hc h
    simp only [drawOk, Bool.and_eq_true] at hd
    obtain ⟨r, h1, hn, hb, hc', hg⟩ := cl_cons hc
    rw [hg] at h
    intro a w hok
    obtain ⟨o, v, ho, hy, hok'⟩ := oneF_yields (hs w hok.mem) hok h1 hn hb
    have hrest := ih (done := s.i :: done) (fuel := fuel) hd.2 hc' (by simpa using h) (a.put o.dst v) w hok'
    refine wpAnyH_take ho hsel hd.1.1 hd.1.2 (fun c a w hq => NoP.no c a _ _ w hq) hy (hs w hok.mem) ?_
    exact hrest


theorem jd_f [NoP Q] {Ls : List Blk} {done : List Nat} {N : Nat} (l : List St) (fuel : Nat) (hf : fuel + l.length = N) (hsel : Region.noSelect ops = true) (hs : ∀ w, Mem w0 W L w → Mem w0 W Ls w)
    (hd : drawOk ops done l = true) (hc : cl (chunk P n ops Ls l E) = cr (chunk P n ops Ls l E)) (h : JD P n w0 W ops Ls ((l.map St.i).reverse ++ done) fuel (gE (chunk P n ops Ls l E)) L Q) : JD P n w0 W ops Ls done N E L Q := by
  subst hf
  exact jd_f0 hsel hs l hd hc h

/-- a row that is not there yet -/
theorem Mem.ghost {w : World} (h : Mem w0 W L w) (T : TypeId) (cs : List Value) : Mem w0 W (L ++ [⟨none, T, cs⟩]) w := by
  refine ⟨h.os, h.tape, h.output, h.drw, h.size, h.old, ?_, ?_, ?_⟩
  · intro x hx b hb
    rcases List.mem_append.1 hx with hx | hx
    · exact h.own x hx b hb
    · simp only [List.mem_singleton] at hx; subst hx; cases hb
  · rw [List.filterMap_append]; simpa using h.dis
  · intro x hx b hb
    rcases List.mem_append.1 hx with hx | hx
    · exact h.new x hx b hb
    · simp only [List.mem_singleton] at hx; subst hx; cases hb

theorem jo_ghost {S : Type} {k : Nat} (T : TypeId) (enc : S → List Value) (h : JO P n w0 W ops k E (L ++ [⟨none, T, row enc [] []⟩]) Q) : JO P n w0 W ops k E L Q :=
  fun a w hok => h a w (hok.mem' (hok.mem.ghost T _))
theorem jc_ghost {S : Type} {c : Code} (T : TypeId) (enc : S → List Value) (h : JC P n w0 W c E (L ++ [⟨none, T, row enc [] []⟩]) Q) : JC P n w0 W c E L Q :=
  fun a w hok => h a w (hok.mem' (hok.mem.ghost T _))

/-- an operation that yields a value for a reason of its own may come up first, too -/
theorem jd_v [NoP Q] {Ls : List Blk} {done : List Nat} {fuel : Nat} (k m : Nat) (hsel : Region.noSelect ops = true) (hs : ∀ w, Mem w0 W L w → Mem w0 W Ls w)
    (hd : (Region.free .any ops (listed ops done) k && (Region.ready .any ops (listed ops done)).contains k) = true) (hp : pl n ops k m E = pr n ops k m E) (v : Value)
    (hv : ∀ w, Mem w0 W Ls w → (execOp (ev E []) (opAt ops k)).run P w = .ok (.value v) w)
    (h : JD P n w0 W ops Ls (k :: done) fuel (putE E (opAt ops k) v) L Q) : JD P n w0 W ops Ls done (fuel + 1) E L Q := by
  have hq := pre_ok hp
  simp only [Bool.and_eq_true] at hd
  intro a w hok
  refine wpAnyH_take hq.1 hsel hd.1 hd.2 (fun c a w hq => NoP.no c a _ _ w hq) (.inl ⟨gok_wanted hok hq.2.1, ?_⟩) (hs w hok.mem) (h _ w (putE_ok hok hq.2.2.1 v))
  intro w' hm'
  rw [exec_known hok (G := []) (by simp) hq.2.2.2.1 hq.2.2.2.2]
  exact hv w' hm'

/-! ### the pure side's words -/

/-- an element -/
def ix {S : Type} (xs : List S) (j : Int) : Option S := if 0 ≤ j then xs[j.toNat]? else none

omit dsW in
theorem ix_some {S : Type} {xs : List S} {j : Int} {x : S} (h : ix xs j = some x) : 0 ≤ j ∧ j < (xs.length : Int) ∧ xs[j.toNat]? = some x := by
  unfold ix at h
  split at h
  · rename_i h0
    have hl : j.toNat < xs.length := by
      rcases Nat.lt_or_ge j.toNat xs.length with h' | h'
      · exact h'
      · simp [List.getElem?_eq_none h'] at h
    exact ⟨h0, by omega, h⟩
  · cases h

omit dsW in
theorem bd {α β : Type} {x : Option α} {f : α → Option β} {r : β} (h : x.bind f = some r) : ∃ t, x = some t ∧ f t = some r := Option.bind_eq_some_iff.1 h
omit dsW in
theorem gd {β : Type} {p : Prop} [Decidable p] {x : Option β} {r : β} (h : (if p then x else none) = some r) : p ∧ x = some r := by
  split at h
  · exact ⟨‹_›, h⟩
  · cases h
omit dsW in
theorem ifT {β : Type} {c : Bool} {x y : Option β} {r : β} (hc : c = true) (h : (if c = true then x else y) = some r) : x = some r := by rwa [if_pos hc] at h
omit dsW in
theorem ifF {β : Type} {c : Bool} {x y : Option β} {r : β} (hc : c = false) (h : (if c = true then x else y) = some r) : y = some r := by rwa [if_neg (by rw [hc]; decide)] at h

omit dsW in
theorem Rw.sp {S : Type} {w : World} {a : Option Addr} {m : Nat} {enc : S → List Value} {xs : List S} {j : Int} {x : S} (h : Rw w a m enc xs) (hx : ix xs j = some x) : a = some ⟨aB a, aO a, none⟩ := by
  refine (h.spot ?_).1
  rintro rfl
  have := (ix_some hx).2.2
  simp at this

omit dsW in
theorem Rw.at {S : Type} {w : World} {a : Option Addr} {m : Nat} {enc : S → List Value} {xs : List S} {j : Int} {x : S} (h : Rw w a m enc xs) (hx : ix xs j = some x) : At w (aB a) (aO a + j.toNat * m) (enc x) :=
  h.cell _ _ (ix_some hx).2.2

/-- known blocks at rising places -/
def nd : List Nat → Bool
  | [] => true
  | a :: l => !(l.any (Nat.beq a)) && nd l

omit dsW in
theorem blk_pos : ∀ (L : List Blk), (L.filterMap Blk.b).Nodup → ∀ (i j : Nat) (x y : Blk) (c : Nat), L[i]? = some x → L[j]? = some y → x.b = some c → y.b = some c → i = j := by
  intro L
  induction L with
  | nil => intro _ i j x y c h; simp at h
  | cons z L ih =>
    intro hd i j x y c hx hy hxc hyc
    have hd' : (L.filterMap Blk.b).Nodup := by
      rw [List.filterMap_cons] at hd
      split at hd
      · exact hd
      · exact (List.nodup_cons.1 hd).2
    have hin : ∀ (k : Nat) (u : Blk), L[k]? = some u → u.b = some c → z.b = some c → False := by
      intro k u hu hc hz
      rw [List.filterMap_cons, hz] at hd
      simp only [List.nodup_cons] at hd
      exact hd.1 (List.mem_filterMap.2 ⟨u, List.mem_of_getElem? hu, hc⟩)
    cases i with
    | zero =>
      cases j with
      | zero => rfl
      | succ j =>
        simp only [List.getElem?_cons_zero, Option.some.injEq] at hx
        subst hx
        simp only [List.getElem?_cons_succ] at hy
        exact (hin j y hy hyc hxc).elim
    | succ i =>
      cases j with
      | zero =>
        simp only [List.getElem?_cons_zero, Option.some.injEq] at hy
        subst hy
        simp only [List.getElem?_cons_succ] at hx
        exact (hin i x hx hxc hyc).elim
      | succ j =>
        simp only [List.getElem?_cons_succ] at hx hy
        rw [ih hd' i j x y c hx hy hxc hyc]

omit dsW in
theorem nd_cons {a : Nat} {l : List Nat} (h : nd (a :: l) = true) : (∀ b ∈ l, a ≠ b) ∧ nd l = true := by
  simp only [nd, Bool.and_eq_true, Bool.not_eq_true'] at h
  refine ⟨fun b hb e => ?_, h.2⟩
  have := List.any_eq_false.1 h.1 b hb
  subst e
  simp [Nat.beq_refl] at this

omit dsW in
theorem at_nodup {L : List Blk} (hd : (L.filterMap Blk.b).Nodup) : ∀ (l : List Nat), nd l = true → ((at_ L l).filterMap Blk.b).Nodup := by
  intro l
  induction l with
  | nil => intro _; simp [at_]
  | cons i l ih =>
    intro h
    obtain ⟨h1, h2⟩ := nd_cons h
    have ih := ih h2
    simp only [at_] at ih ⊢
    rw [List.filterMap_cons]
    cases hi : L[i]? with
    | none => simpa using ih
    | some x =>
      simp only []
      rw [List.filterMap_cons]
      cases hb : x.b with
      | none => simpa using ih
      | some c =>
        simp only [List.nodup_cons]
        refine ⟨fun hm => ?_, ih⟩
        obtain ⟨y, hy, hyc⟩ := List.mem_filterMap.1 hm
        obtain ⟨j, hj, hjy⟩ := List.mem_filterMap.1 hy
        exact h1 j hj (blk_pos L hd i j x y c hi hjy hb hyc)

theorem Mem.pick {w : World} (h : Mem w0 W L w) (l : List Nat) (hr : nd l = true) {N : List Blk} (hN : at_ L l = N) : Mem w0 W N w := by
  rw [← hN]
  refine h.less (fun x hx => ?_) (at_nodup h.dis l hr)
  obtain ⟨j, _, hj⟩ := List.mem_filterMap.1 hx
  exact List.mem_of_getElem? hj

/-- what is known of some temporaries, and the blocks at some places, alone -/
theorem jc_keep {c : Code} (ts l : List Nat) (L' : List Blk) (hr : nd l = true) (hL : at_ L l = L') (h : JC P n w0 W c (restr ts E) L' Q) : JC P n w0 W c E L Q :=
  fun a w hok => h a w ((lk_ok hok restr_ok (fun _ h => h) hok.mem.dis).mem' (hok.mem.pick l hr hL))
theorem jx_keep {e : Exit} (ts l : List Nat) (L' : List Blk) (hr : nd l = true) (hL : at_ L l = L') (h : JX n w0 W e (restr ts E) L' Q) : JX n w0 W e E L Q :=
  fun a w hok => h a w ((lk_ok hok restr_ok (fun _ h => h) hok.mem.dis).mem' (hok.mem.pick l hr hL))
/-- the same, towards a printed state -/
theorem jc_to {c : Code} (E' : Env) (l : List Nat) {L' : List Blk} (hE : E'.map (fun e => lk E e.1) = E'.map (fun e => some e.2)) (hr : nd l = true) (hL : at_ L l = L') (h : JC P n w0 W c E' L' Q) : JC P n w0 W c E L Q :=
  fun a w hok => h a w ((lk_ok hok hE (fun _ h => h) hok.mem.dis).mem' (hok.mem.pick l hr hL))

/-- the round goes on -/
theorem jx_back {S X T : Type} {I : S → X → Prop} {Es : S → X → Env} {Ls : S → X → List Blk} {t : T} {y : S ⊕ T} (s : S) (x : X) (hy : y = .inl s) (hi : I s x) (l : List Nat) (hr : nd l = true)
    (hE : (Es s x).map (fun e => lk E e.1) = (Es s x).map (fun e => some e.2)) (hL : at_ L l = Ls s x) : JX n w0 W .normal E L (LQ n w0 W I Es Ls t Q y) := by
  intro a w hok
  exact ⟨s, x, hy, hi, (lk_ok hok hE (fun _ h => h) hok.mem.dis).mem' (hok.mem.pick l hr hL)⟩

theorem jc_loop {S X T : Type} {f : S → Option (S ⊕ T)} {c : Code} (I : S → X → Prop) (Es : S → X → Env) (Ls : S → X → List Blk) {s : S} {t : T} (hrun : loop f s = some t) (x : X) (hI : I s x)
    (hE : (Es s x).map (fun e => lk E e.1) = (Es s x).map (fun e => some e.2)) (l : List Nat) (hr : nd l = true) (hL : at_ L l = Ls s x)
    (round : ∀ s x y, I s x → f s = some y → JC P n w0 W c (Es s x) (Ls s x) (LQ n w0 W I Es Ls t Q y)) : JC P n w0 W (.loop c) E L Q := by
  intro a w hok
  have hit := loop_it.1 hrun
  have h0 : Ok n w0 W (Es s x) (Ls s x) a w := (lk_ok hok hE (fun _ h => h) hok.mem.dis).mem' (hok.mem.pick l hr hL)
  clear hok hE hL hrun hr
  have main : ∀ s, It f t s → ∀ x a w, I s x → Ok n w0 W (Es s x) (Ls s x) a w → ∀ (b : Frame) (k : List Item) (cs : List Frame),
      ∃ e a' w', Q e a' w' ∧ Arrives P (lone (b.at a (.code c :: .inLoop c :: k)) cs w) b k cs e a' w' := by
    intro s hit
    induction hit with
    | done e =>
      intro x a w hi hok b k cs
      obtain ⟨ex, a', w', hq, harr⟩ := round _ x _ hi e a w hok b (.inLoop c :: k) cs
      cases ex with
      | normal => obtain ⟨s', x', h, _⟩ := hq; cases h
      | exit id => obtain ⟨t', h, hq⟩ := hq; cases h; exact ⟨_, a', w', hq rfl, .pass (x := .inLoop c) rfl (fun _ _ => .inl (by simp)) harr⟩
      | goto l => obtain ⟨t', h, hq⟩ := hq; cases h; exact ⟨_, a', w', hq rfl, .pass (x := .inLoop c) rfl (fun _ _ => .inl (by simp)) harr⟩
      | ret => obtain ⟨t', h, hq⟩ := hq; cases h; exact ⟨_, a', w', hq rfl, .pass (x := .inLoop c) rfl (fun _ _ => .inl (by simp)) harr⟩
      | panic ch => obtain ⟨t', h, hq⟩ := hq; cases h; exact ⟨_, a', w', hq rfl, .pass (x := .inLoop c) rfl (fun _ _ => .inl (by simp)) harr⟩
      | outgrown => obtain ⟨t', h, hq⟩ := hq; cases h; exact ⟨_, a', w', hq rfl, .pass (x := .inLoop c) rfl (fun _ _ => .inl (by simp)) harr⟩
    | step e h2 ih =>
      intro x a w hi hok b k cs
      obtain ⟨ex, a', w', hq, harr⟩ := round _ x _ hi e a w hok b (.inLoop c :: k) cs
      cases ex with
      | normal =>
        obtain ⟨s', x', h, hi', hok'⟩ := hq
        cases h
        obtain ⟨e₂, a₂, w₂, hq₂, harr₂⟩ := ih x' a' w' hi' hok' b k cs
        exact ⟨e₂, a₂, w₂, hq₂, .of_steps (Steps.trans harr (.one step_inLoop)) harr₂⟩
      | exit id => obtain ⟨t', h, hq⟩ := hq; cases h
      | goto l => obtain ⟨t', h, hq⟩ := hq; cases h
      | ret => obtain ⟨t', h, hq⟩ := hq; cases h
      | panic ch => obtain ⟨t', h, hq⟩ := hq; cases h
      | outgrown => obtain ⟨t', h, hq⟩ := hq; cases h
  intro b k cs
  obtain ⟨e, a', w', hq, harr⟩ := main s hit x a w hI h0 b k cs
  exact ⟨e, a', w', hq, .of_steps (.one step_loop) harr⟩

/-- a place where ways meet -/
theorem jc_meet {J : Type} {c : Code} (I : J → Prop) (Ej : J → Env) (Lj : J → List Blk) (h : JC P n w0 W c E L (Exit.then (fun a w => ∃ j, I j ∧ Ok n w0 W (Ej j) (Lj j) a w) Q))
    (hk : ∀ j, I j → JX n w0 W .normal (Ej j) (Lj j) Q) : JC P n w0 W c E L Q := by
  intro a w hok
  refine wp_mono (h a w hok) ?_
  intro e a' w' hq
  cases e with
  | normal => obtain ⟨j, hi, hok'⟩ := hq; exact hk j hi a' w' hok'
  | _ => exact hq

theorem jx_meet {J : Type} {I : J → Prop} {Ej : J → Env} {Lj : J → List Blk} (j : J) (hi : I j) (hE : (Ej j).map (fun e => lk E e.1) = (Ej j).map (fun e => some e.2)) (l : List Nat) (hr : nd l = true)
    (hL : at_ L l = Lj j) : JX n w0 W .normal E L (Exit.then (fun a w => ∃ j, I j ∧ Ok n w0 W (Ej j) (Lj j) a w) Q) :=
  fun a w hok => ⟨j, hi, (lk_ok hok hE (fun _ h => h) hok.mem.dis).mem' (hok.mem.pick l hr hL)⟩

theorem jx_ghost {S : Type} {e : Exit} (T : TypeId) (enc : S → List Value) (h : JX n w0 W e E (L ++ [⟨none, T, row enc [] []⟩]) Q) : JX n w0 W e E L Q :=
  fun a w hok => h a w (hok.mem' (hok.mem.ghost T _))

omit dsW in
theorem Rw.nil {S : Type} {w : World} {m : Nat} {enc : S → List Value} : Rw w none m enc ([] : List S) := ⟨fun h => absurd rfl h, fun j x h => by simp at h⟩

omit dsW in
theorem spo {S : Type} {o : Option Nat} {xs : List S} {cap : Nat} {j : Int} {x : S} (ho : o = none → xs = [] ∧ cap = 0) (hx : ix xs j = some x) :
    (o.map fun b => (⟨b, 0, none⟩ : Addr)) = some ⟨aB (o.map fun b => ⟨b, 0, none⟩), aO (o.map fun b => ⟨b, 0, none⟩), none⟩ := by
  cases o with
  | none =>
    have := (ho rfl).1
    subst this
    have := (ix_some hx).2.2
    simp at this
  | some b => rfl

/-- a store into an element of a known row -/
theorem p_str {K : Act → World → Prop} {S : Type} {k : Nat} (m hh b : Nat) (T : TypeId) (enc : S → List Value) (xs : List S) (sp : List Value) (j : Int) (y : S) (size f : Nat) (vs : List Value) {x : S}
    (hp : pl n ops k m E = pr n ops k m E) (hq : stQ P E (opAt ops k).op = some (b, 0 + j.toNat * size + f, vs)) (hL : L[hh]? = some ⟨some b, T, row enc xs sp⟩) (hm : ∀ x, (enc x).length = size)
    (hx : ix xs j = some x) (hf : Nat.ble (f + vs.length) size = true) (he : spl (enc x) f vs = enc y)
    (hk : JK n w0 W K (putE E (opAt ops k) undef) (L.set hh ⟨some b, T, row enc (xs.set j.toNat y) sp⟩)) : JP P n w0 W ops k K E L Q := by
  have hf := Nat.le_of_ble_eq_true hf
  have hi := (ix_some hx).2.2
  have hlt : j.toNat < xs.length := by
    rcases Nat.lt_or_ge j.toNat xs.length with h' | h'
    · exact h'
    · simp [List.getElem?_eq_none h'] at hi
  refine p_st m hh b _ vs T _ _ hp hq hL ?_ ?_ hk
  · simp only [row, List.length_append, flatMap_len hm]
    have : (j.toNat + 1) * size ≤ xs.length * size := Nat.mul_le_mul_right _ hlt
    rw [Nat.succ_mul] at this
    omega
  · rw [Nat.zero_add]
    exact spl_row hm hi hf he

/-! ### arrays -/

/-- an array of n elements -/
abbrev Arr (n : Nat) (S : Type) : Type := {xs : List S // xs.length = n}
def Arr.set {n : Nat} {S : Type} (a : Arr n S) (j : Int) (y : S) : Arr n S := ⟨a.1.set j.toNat y, List.length_set.trans a.2⟩
def Arr.rep {S : Type} (n : Nat) (z : S) : Arr n S := ⟨List.replicate n z, List.length_replicate⟩

omit dsW in
theorem row_len {S : Type} {enc : S → List Value} {m n : Nat} (hm : ∀ x, (enc x).length = m) (a : Arr n S) : (row enc a.1 []).length = n * m := by
  rw [row, List.append_nil, flatMap_len hm, a.2]
omit dsW in
theorem row_cell {S : Type} {enc : S → List Value} (hc : ∀ x, (enc x).all isCell = true) (xs : List S) : ∀ v ∈ row enc xs [], isCell v = true := by
  intro v hv
  rw [row, List.append_nil, List.mem_flatMap] at hv
  obtain ⟨x, _, hx⟩ := hv
  exact List.all_eq_true.1 (hc x) v hx

/-- a block's cells, all of them -/
theorem Mem.all {w : World} (h : Mem w0 W L w) {hh b : Nat} {T : TypeId} {cs : List Value} (hx : L[hh]? = some ⟨some b, T, cs⟩) : At w b 0 cs := by
  intro i v hv
  rw [Nat.zero_add]
  exact h.cell (List.mem_of_getElem? hx) rfl i v hv

/-- a whole array is loaded -/
theorem p_ldA {K : Act → World → Prop} {S : Type} {N : Nat} {k : Nat} (m hh b sz mm : Nat) (T : TypeId) (enc : S → List Value) (a : Arr N S) (hp : pl n ops k m E = pr n ops k m E) (hq : ldQ P E (opAt ops k).op = some (b, 0, true, sz))
    (hL : L[hh]? = some ⟨some b, T, row enc a.1 []⟩) (hm : ∀ x, (enc x).length = mm) (hs : Nat.beq (N * mm) sz = true)
    (hk : JK n w0 W K (putE E (opAt ops k) (.agg (row enc a.1 []).toArray)) L) : JP P n w0 W ops k K E L Q :=
  p_v m hp _ (fun w hw => ld_run hq ((row_len hm a).trans (Nat.eq_of_beq_eq_true hs)) (.inl rfl) (hw.all hL)) hk

def stQA (P : Program) (E : Env) : Op → Option (Nat × Nat × List Value × Nat)
  | .store T x y => match evo E [] x, evo E [] y, P.info? T with
    | some (.pointer (some ⟨b, off, none⟩)), some v, some t => some (b, off, v.cells.toList, t.size)
    | _, _, _ => none
  | _ => none

omit dsW in
theorem spl_whole : ∀ (vs pre cs : List Value), vs.length = cs.length → spl (pre ++ cs) pre.length vs = pre ++ vs := by
  intro vs
  induction vs with
  | nil => intro pre cs h; cases cs with
    | nil => rfl
    | cons => cases h
  | cons v vs ih =>
    intro pre cs h
    cases cs with
    | nil => cases h
    | cons c cs =>
      rw [spl]
      have : (pre ++ c :: cs).set pre.length v = (pre ++ [v]) ++ cs := by
        rw [List.set_append_right _ _ (Nat.le_refl _)]; simp
      rw [this]
      have h2 := ih (pre ++ [v]) cs (by simpa using h)
      rw [List.length_append] at h2
      simpa using h2

/-- a whole array is stored -/
theorem p_sA {K : Act → World → Prop} {S : Type} {N : Nat} {k : Nat} (m hh b sz mm : Nat) (T : TypeId) (enc : S → List Value) (a0 a : Arr N S) (hp : pl n ops k m E = pr n ops k m E)
    (hq : stQA P E (opAt ops k).op = some (b, 0, row enc a.1 [], sz))
    (hL : L[hh]? = some ⟨some b, T, row enc a0.1 []⟩) (hm : ∀ x, (enc x).length = mm) (hc : ∀ x, (enc x).all isCell = true) (hs : Nat.beq (N * mm) sz = true)
    (hk : JK n w0 W K (putE E (opAt ops k) undef) (L.set hh ⟨some b, T, row enc a.1 []⟩)) : JP P n w0 W ops k K E L Q := by
  have h := pre_ok hp
  intro ac w hok
  have hw := gok_wanted hok h.2.1
  unfold wpOp
  simp only [h.1, hw, if_true]
  refine .inl ?_
  unfold Oper.wp
  rw [exec_known hok (G := []) (by simp) h.2.2.2.1 h.2.2.2.2]
  have hl1 := row_len hm a
  have hl0 := row_len hm a0
  have hs' := Nat.eq_of_beq_eq_true hs
  unfold stQA at hq
  split at hq
  · rename_i T' x y ho
    split at hq
    · rename_i b' off' v t hx hy ht
      simp only [Option.some.injEq, Prod.mk.injEq] at hq
      obtain ⟨rfl, rfl, hv, rfl⟩ := hq
      have hsz : v.cells.size = t.size := by rw [← hs', ← hl1, ← hv]; simp
      obtain ⟨w', hr, hm'⟩ := storeCells_run (P := P) (row enc a.1 []) 0 0 (row enc a0.1 []) L w hok.mem hL (by omega) (row_cell hc a.1)
      have ex : ev E [] x = .pointer (some ⟨b', 0, none⟩) := by simp [ev, hx]
      have ey : ev E [] y = v := by simp [ev, hy]
      have : (execOp (ev E []) (opAt ops k)).run P w = .ok .skip w' := by
        simp only [execOp, ho, Instr.storeAt, ex, ey, Instr.sureAddr, Sem.run_bind, Sem.run_pure, Result.andThen_ok, storeVar, run_sizeOf ht, hsz, ne_eq, not_true_eq_false, if_false]
        rw [hv]
        simp only [hr, Result.andThen_ok]
      rw [this]
      simp only [Oper.upon]
      have e := spl_whole (row enc a.1 []) [] (row enc a0.1 []) (by omega)
      simp only [List.nil_append, List.length_nil] at e
      rw [show (0 : Nat) + 0 = 0 from rfl, e] at hm'
      exact hk _ _ (putE_ok (hok.mem' hm') h.2.2.1 undef)
    · simp at hq
  · simp at hq

/-! the results, one by one -/
def RQ (P : Program) (n : Nat) (w0 : World) (W : List Nat) (E : Env) (L : List Blk) (rs : List ResultVar) (vs : List Value) : Prop :=
  ∀ a w, Ok n w0 W E L a w → (rs.mapM (resOne a.tmps)).run P w = .ok vs w
theorem rq_nil : RQ P n w0 W E L [] [] := fun _ _ _ => rfl
theorem rq_tmp {t : Nat} {v : Value} {rs : List ResultVar} {vs : List Value} (hv : evo E [] (.tmp t) = some v) (h : RQ P n w0 W E L rs vs) : RQ P n w0 W E L (.tmp t :: rs) (v :: vs) := by
  intro a w hok
  have e := evo_sound hok (G := []) (by simp) hv
  simp only [Act.eval] at e
  simp [resOne, h a w hok, e]
theorem rq_cell {t : Nat} {T : TypeId} {v : Value} {rs : List ResultVar} {vs : List Value} (hs : List Nat) (bs : List (Nat × Nat)) (hv : resF P L E [.cell t T] hs = some ([v], bs)) (hb : bs.map (·.1) = bs.map (·.2))
    (h : RQ P n w0 W E L rs vs) : RQ P n w0 W E L (.cell t T :: rs) (v :: vs) := by
  intro a w hok
  have e := resF_sound hok _ _ _ hv hb
  simp only [List.mapM_cons, List.mapM_nil, Sem.run_bind] at e
  cases hr : (resOne a.tmps (.cell t T)).run P w with
  | halt y w1 => rw [hr] at e; simp at e
  | ok y w1 =>
    rw [hr] at e
    simp only [Result.andThen_ok, Sem.run_pure, Sem.run_bind, Result.ok.injEq, List.cons.injEq, and_true] at e
    obtain ⟨rfl, rfl⟩ := e
    simp [hr, h a w1 hok]
theorem rq_arr {S : Type} {N t b mm hh : Nat} {T T' : TypeId} {rs : List ResultVar} {vs : List Value} (enc : S → List Value) (a : Arr N S) (hv : evo E [] (.tmp t) = some (.pointer (some ⟨b, 0, none⟩)))
    (hL : L[hh]? = some ⟨some b, T', row enc a.1 []⟩) (hm : ∀ x, (enc x).length = mm) (hT : (match P.underlying T, P.info? T with | some (.array _ _), some i => Nat.beq i.size (N * mm) | _, _ => false) = true)
    (h : RQ P n w0 W E L rs vs) : RQ P n w0 W E L (.cell t T :: rs) (.agg (row enc a.1 []).toArray :: vs) := by
  intro ac w hok
  have e := evo_sound hok (G := []) (by simp) hv
  simp only [Act.eval] at e
  cases hu : P.underlying T with
  | none => simp [hu] at hT
  | some d =>
    cases hi : P.info? T with
    | none => simp [hu, hi] at hT
    | some i =>
      cases d with
      | array q el =>
        simp only [hu, hi] at hT
        have hsz := Nat.eq_of_beq_eq_true hT
        have hagg : (isAgg T).run P w = .ok true w := by
          unfold isAgg
          simp [underlying, program, Sem.run, hu]
        have hl : (loadVar T ⟨b, 0, none⟩).run P w = .ok (.agg (row enc a.1 []).toArray) w := by
          simp only [loadVar, Sem.run_bind, hagg, Result.andThen_ok, if_true, run_sizeOf hi, loadCells, loadCells_run (hok.mem.all hL) i.size 0 #[] (by rw [row_len hm a]; omega), Sem.run_pure]
          simp
        simp [resOne, e, asAddr, hl, h ac w hok]
      | _ => simp [hu] at hT
theorem jx_retV {fn : Func} {R : Value → World → Prop} {rs : List ResultVar} {vs : List Value} (hrs : fn.results.toList = rs) (hq : RQ P n w0 W E L rs vs) (hR : ∀ w, Mem w0 W L w → R (one vs) w) :
    JX n w0 W .ret E L (QB P fn R) := by
  intro a w hok
  subst hrs
  exact ⟨hok.df, _, results_eq (hq a w hok), hR w hok.mem⟩

/-! ### blocks handed on to a call -/
def bs (l : List (Option Nat)) : List Nat := l.filterMap id
def putL (L : List Blk) : List (Nat × Blk) → List Blk
  | [] => L
  | p :: ps => putL (L.set p.1 p.2) ps

omit dsW in
theorem bs_map (L : List Blk) : bs (L.map Blk.b) = L.filterMap Blk.b := by simp [bs, List.filterMap_map]

/-- some of the known blocks, as a call finds them -/
theorem Mem.pass {w : World} (h : Mem w0 W L w) (l : List Nat) (hn : nd l = true) {N : List Blk} (hN : at_ L l = N) : Mem w (bs (N.map Blk.b)) N w := by
  subst hN
  have hs : ∀ x ∈ at_ L l, x ∈ L := by
    intro x hx
    obtain ⟨j, _, hj⟩ := List.mem_filterMap.1 hx
    exact List.mem_of_getElem? hj
  refine ⟨rfl, rfl, rfl, Drw.of_le (Nat.le_refl _), Nat.le_refl _, fun _ _ _ => rfl, fun x hx b hb => h.own x (hs x hx) b hb, at_nodup h.dis l hn, fun x hx b hb => .inl ?_⟩
  rw [bs_map]
  exact List.mem_filterMap.2 ⟨x, hx, hb⟩

omit dsW in
theorem putL_spec : ∀ (ps : List (Nat × Blk)) (L : List Blk), nd (ps.map (·.1)) = true → ps.map (fun p => (L[p.1]?).map Blk.b) = ps.map (fun p => some p.2.b) →
    (putL L ps).map Blk.b = L.map Blk.b ∧ ∀ x ∈ putL L ps, (∃ p ∈ ps, x = p.2) ∨ (∃ i : Nat, L[i]? = some x ∧ ∀ p ∈ ps, p.1 ≠ i) := by
  intro ps
  induction ps with
  | nil => intro L _ _; exact ⟨rfl, fun x hx => .inr (by obtain ⟨i, hi⟩ := List.mem_iff_getElem?.1 hx; exact ⟨i, hi, by simp⟩)⟩
  | cons p ps ih =>
    intro L hn hi
    rw [List.map_cons] at hn
    obtain ⟨h1, h2⟩ := nd_cons hn
    simp only [List.map_cons, List.cons.injEq] at hi
    obtain ⟨hp, hr⟩ := hi
    have hmap : (L.set p.1 p.2).map Blk.b = L.map Blk.b := by
      rw [List.map_set]
      apply List.ext_getElem?
      intro k
      rw [List.getElem?_set]
      split
      · rename_i e; subst e
        split
        · rw [List.getElem?_map, hp]
        · rename_i hlt
          rw [List.getElem?_eq_none (by simpa using hlt)]
      · rfl
    have hr' : ps.map (fun q => ((L.set p.1 p.2)[q.1]?).map Blk.b) = ps.map (fun q => some q.2.b) := by
      rw [← hr]
      refine List.map_congr_left fun q _ => ?_
      rw [← List.getElem?_map, ← List.getElem?_map, hmap]
    obtain ⟨ih1, ih2⟩ := ih (L.set p.1 p.2) h2 hr'
    refine ⟨ih1.trans hmap, fun x hx => ?_⟩
    rcases ih2 x hx with ⟨q, hq, e⟩ | ⟨i, hix, hni⟩
    · exact .inl ⟨q, List.mem_cons_of_mem _ hq, e⟩
    · by_cases hpi : p.1 = i
      · subst hpi
        rw [List.getElem?_set] at hix
        simp only [if_true] at hix
        split at hix
        · exact .inl ⟨p, List.mem_cons_self, (Option.some.inj hix).symm⟩
        · cases hix
      · rw [List.getElem?_set_ne hpi] at hix
        exact .inr ⟨i, hix, fun q hq => by
          rcases List.mem_cons.1 hq with rfl | hq
          · exact hpi
          · exact hni q hq⟩

/-- Known blocks, of which a call got some and may have written them, and those that it has made. -/
theorem Mem.appW {w w' : World} {ps : List (Nat × Blk)} {N : List Blk} (h : Mem w0 W L w) (h' : Mem w (bs (ps.map (·.2.b))) (ps.map (·.2) ++ N) w') (hi : ps.map (fun p => (L[p.1]?).map Blk.b) = ps.map (fun p => some p.2.b))
    (hn : nd (ps.map (·.1)) = true) : Mem w0 W (putL L ps ++ N) w' := by
  obtain ⟨hB, hA⟩ := putL_spec ps L hn hi
  have hbs : ∀ c, c ∈ bs (ps.map (·.2.b)) → ∃ p ∈ ps, ∃ y, L[p.1]? = some y ∧ y.b = some c := by
    intro c hc
    simp only [bs, List.mem_filterMap, List.mem_map, id] at hc
    obtain ⟨_, ⟨p, hp, rfl⟩, hpc⟩ := hc
    refine ⟨p, hp, ?_⟩
    have := List.map_inj_left.1 hi p hp
    obtain ⟨y, hy, hyb⟩ := Option.map_eq_some_iff.1 this
    exact ⟨y, hy, hyb.trans hpc⟩
  have hfm : (putL L ps).filterMap Blk.b = L.filterMap Blk.b := by
    rw [← bs_map, ← bs_map, hB]
  have hN : ∀ x ∈ N, ∀ c, x.b = some c → c ∉ bs (ps.map (·.2.b)) := by
    intro x hx c hc hin
    have hd := h'.dis
    rw [List.filterMap_append, List.nodup_append] at hd
    refine hd.2.2 c ?_ c (List.mem_filterMap.2 ⟨x, hx, hc⟩) rfl
    simp only [bs, List.mem_filterMap, List.mem_map, id] at hin
    obtain ⟨_, ⟨p, hp, rfl⟩, hpc⟩ := hin
    exact List.mem_filterMap.2 ⟨p.2, List.mem_map.2 ⟨p, hp, rfl⟩, hpc⟩
  have hNn : ∀ x ∈ N, ∀ c, x.b = some c → w.heap.size ≤ c := by
    intro x hx c hc
    rcases h'.new x (List.mem_append_right _ hx) c hc with h1 | h1
    · exact (hN x hx c hc h1).elim
    · exact h1
  have hLn : ∀ c, c ∈ L.filterMap Blk.b → c < w.heap.size ∧ (c ∈ W ∨ w0.heap.size ≤ c) := by
    intro c hc
    obtain ⟨y, hy, hyc⟩ := List.mem_filterMap.1 hc
    exact ⟨h.lt hy hyc, h.new y hy c hyc⟩
  refine ⟨h'.os.trans h.os, h'.tape.trans h.tape, h'.output.trans h.output, h.drw.trans h'.drw, Nat.le_trans h.size h'.size, ?_, ?_, ?_, ?_⟩
  · intro b hb hW
    rw [h'.old b (Nat.lt_of_lt_of_le hb h.size) ?_]
    · exact h.old b hb hW
    · intro hin
      obtain ⟨p, _, y, hy, hyb⟩ := hbs b hin
      rcases h.new y (List.mem_of_getElem? hy) b hyb with h1 | h1
      · exact hW h1
      · omega
  · intro x hx b hb
    rcases List.mem_append.1 hx with hx | hx
    · rcases hA x hx with ⟨p, hp, rfl⟩ | ⟨i, hix, hni⟩
      · exact h'.own p.2 (List.mem_append_left _ (List.mem_map.2 ⟨p, hp, rfl⟩)) b hb
      · rw [h'.old b (h.lt (List.mem_of_getElem? hix) hb) ?_]
        · exact h.own x (List.mem_of_getElem? hix) b hb
        · intro hin
          obtain ⟨p, hp, y, hy, hyb⟩ := hbs b hin
          exact hni p hp (blk_pos L h.dis p.1 i y x b hy hix hyb hb)
    · exact h'.own x (List.mem_append_right _ hx) b hb
  · rw [List.filterMap_append, hfm, List.nodup_append]
    refine ⟨h.dis, ?_, ?_⟩
    · have hd := h'.dis
      rw [List.filterMap_append, List.nodup_append] at hd
      exact hd.2.1
    · intro a ha c hc e
      subst e
      obtain ⟨x, hx, hxc⟩ := List.mem_filterMap.1 hc
      have := hNn x hx a hxc
      have := (hLn a ha).1
      omega
  · intro x hx b hb
    rcases List.mem_append.1 hx with hx | hx
    · have : b ∈ L.filterMap Blk.b := by rw [← hfm]; exact List.mem_filterMap.2 ⟨x, hx, hb⟩
      exact (hLn b this).2
    · exact .inr (Nat.le_trans h.size (hNn x hx b hb))

/-! a row that a call has moved: what was known at its place is given up, the new row is behind -/
def kil : List Blk → List Nat → List Blk
  | L, [] => L
  | L, i :: l => kil (L.set i ⟨none, 0, []⟩) l

omit dsW in
theorem kill_get : ∀ (l : List Nat) (L : List Blk) (i : Nat) (x : Blk) (c : Nat), (kil L l)[i]? = some x → x.b = some c → L[i]? = some x ∧ i ∉ l := by
  intro l
  induction l with
  | nil => intro L i x c h _; exact ⟨h, by simp⟩
  | cons j l ih =>
    intro L i x c h hc
    obtain ⟨h1, h2⟩ := ih (L.set j ⟨none, 0, []⟩) i x c h hc
    by_cases hji : j = i
    · subst hji
      rw [List.getElem?_set] at h1
      simp only [if_true] at h1
      split at h1
      · simp only [Option.some.injEq] at h1; subst h1; cases hc
      · cases h1
    · rw [List.getElem?_set_ne hji] at h1
      exact ⟨h1, by simp only [List.mem_cons, not_or]; exact ⟨fun e => hji e.symm, h2⟩⟩
omit dsW in
theorem kill_other : ∀ (l : List Nat) (L : List Blk) (i : Nat), i ∉ l → (kil L l)[i]? = L[i]? := by
  intro l
  induction l with
  | nil => intro L i _; rfl
  | cons j l ih =>
    intro L i h
    simp only [List.mem_cons, not_or] at h
    rw [kil, ih _ i h.2, List.getElem?_set_ne (fun e => h.1 e.symm)]
omit dsW in
theorem kill_sub (l : List Nat) (L : List Blk) : ∀ x ∈ kil L l, ∀ c, x.b = some c → x ∈ L := by
  intro x hx c hc
  obtain ⟨i, hi⟩ := List.mem_iff_getElem?.1 hx
  exact List.mem_of_getElem? (kill_get l L i x c hi hc).1
omit dsW in
theorem set_none_sub : ∀ (L : List Blk) (i : Nat), ((L.set i ⟨none, 0, []⟩).filterMap Blk.b).Sublist (L.filterMap Blk.b) := by
  intro L
  induction L with
  | nil => intro i; simp
  | cons x L ih =>
    intro i
    cases i with
    | zero =>
      simp only [List.set_cons_zero, List.filterMap_cons]
      cases x.b with
      | none => exact List.Sublist.refl _
      | some c => exact List.sublist_cons_self _ _
    | succ i =>
      simp only [List.set_cons_succ, List.filterMap_cons]
      cases x.b with
      | none => exact ih i
      | some c => exact (ih i).cons_cons _
omit dsW in
theorem kill_nodup : ∀ (l : List Nat) (L : List Blk), (L.filterMap Blk.b).Nodup → ((kil L l).filterMap Blk.b).Nodup := by
  intro l
  induction l with
  | nil => intro L h; exact h
  | cons j l ih => intro L h; exact ih _ (h.sublist (set_none_sub L j))
theorem Mem.kill {w : World} (h : Mem w0 W L w) (l : List Nat) : Mem w0 W (kil L l) w :=
  h.less' (fun x hx c hc => kill_sub l L x hx c hc) (kill_nodup l L h.dis)

omit dsW in
theorem nd_app {a b : List Nat} (h : nd (a ++ b) = true) : nd a = true ∧ ∀ x ∈ a, x ∉ b := by
  induction a with
  | nil => exact ⟨rfl, by simp⟩
  | cons x a ih =>
    simp only [List.cons_append] at h
    obtain ⟨h1, h2⟩ := nd_cons h
    obtain ⟨i1, i2⟩ := ih h2
    refine ⟨?_, ?_⟩
    · simp only [nd, Bool.and_eq_true, Bool.not_eq_true', i1, and_true]
      rw [List.any_eq_false]
      intro b hb e
      exact h1 b (List.mem_append_left _ hb) (Nat.eq_of_beq_eq_true (by simpa using e))
    · intro y hy
      rcases List.mem_cons.1 hy with rfl | hy
      · intro hb; exact h1 y (List.mem_append_right _ hb) rfl
      · exact i2 y hy

/-- Known blocks: a call got some, of which it has moved those at ds. -/
theorem Mem.appD {w w' : World} {ps : List (Nat × Blk)} {ds : List Nat} {N : List Blk} {ob : List (Option Nat)} (h : Mem w0 W L w) (h' : Mem w (bs ob) (ps.map (·.2) ++ N) w')
    (ho : ∀ c, some c ∈ ob → some c ∈ ps.map (·.2.b) ++ (at_ L ds).map Blk.b) (hi : ps.map (fun p => (L[p.1]?).map Blk.b) = ps.map (fun p => some p.2.b))
    (hn : nd (ps.map (·.1) ++ ds) = true) : Mem w0 W (putL (kil L ds) ps ++ N) w' := by
  obtain ⟨hn1, hn2⟩ := nd_app hn
  have hk := h.kill ds
  have hi2 : ps.map (fun p => ((kil L ds)[p.1]?).map Blk.b) = ps.map (fun p => some p.2.b) := by
    rw [← hi]
    refine List.map_congr_left fun p hp => ?_
    rw [kill_other ds L p.1 (hn2 p.1 (List.mem_map.2 ⟨p, hp, rfl⟩))]
  obtain ⟨hB, hA⟩ := putL_spec ps (kil L ds) hn1 hi2
  -- an old number: at a place of ps, or at one of ds
  have hob : ∀ c, c ∈ bs ob → (∃ p ∈ ps, p.2.b = some c ∧ ∃ y, L[p.1]? = some y ∧ y.b = some c) ∨ (∃ d ∈ ds, ∃ y, L[d]? = some y ∧ y.b = some c) := by
    intro c hc
    have h1 : some c ∈ ob := by
      obtain ⟨o, h1, h2⟩ := List.mem_filterMap.1 hc
      simp only [id] at h2; subst h2; exact h1
    rcases List.mem_append.1 (ho c h1) with h2 | h2
    · obtain ⟨p, hp, hpc⟩ := List.mem_map.1 h2
      have := List.map_inj_left.1 hi p hp
      obtain ⟨y, hy, hyb⟩ := Option.map_eq_some_iff.1 this
      exact .inl ⟨p, hp, hpc, y, hy, hyb.trans hpc⟩
    · obtain ⟨y, hy, hyc⟩ := List.mem_map.1 h2
      obtain ⟨d, hd, hdy⟩ := List.mem_filterMap.1 hy
      exact .inr ⟨d, hd, y, hdy, hyc⟩
  have hold : ∀ c, c ∈ bs ob → c ∈ W ∨ w0.heap.size ≤ c := by
    intro c hc
    rcases hob c hc with ⟨_, _, _, y, hy, hyc⟩ | ⟨_, _, y, hy, hyc⟩
    · exact h.new y (List.mem_of_getElem? hy) c hyc
    · exact h.new y (List.mem_of_getElem? hy) c hyc
  have hN : ∀ x ∈ N, ∀ c, x.b = some c → (∃ d ∈ ds, ∃ y, L[d]? = some y ∧ y.b = some c) ∨ w.heap.size ≤ c := by
    intro x hx c hc
    rcases h'.new x (List.mem_append_right _ hx) c hc with h1 | h1
    · rcases hob c h1 with ⟨p, hp, hpc, _⟩ | h2
      · have hd := h'.dis
        rw [List.filterMap_append, List.nodup_append] at hd
        exact (hd.2.2 c (List.mem_filterMap.2 ⟨p.2, List.mem_map.2 ⟨p, hp, rfl⟩, hpc⟩) c (List.mem_filterMap.2 ⟨x, hx, hc⟩) rfl).elim
      · exact .inl h2
    · exact .inr h1
  have hfm : (putL (kil L ds) ps).filterMap Blk.b = (kil L ds).filterMap Blk.b := by rw [← bs_map, ← bs_map, hB]
  refine ⟨h'.os.trans h.os, h'.tape.trans h.tape, h'.output.trans h.output, h.drw.trans h'.drw, Nat.le_trans h.size h'.size, ?_, ?_, ?_, ?_⟩
  · intro b hb hW
    rw [h'.old b (Nat.lt_of_lt_of_le hb h.size) ?_]
    · exact h.old b hb hW
    · intro hin
      rcases hold b hin with h1 | h1
      · exact hW h1
      · omega
  · intro x hx b hb
    rcases List.mem_append.1 hx with hx | hx
    · rcases hA x hx with ⟨p, hp, rfl⟩ | ⟨i, hix, hni⟩
      · exact h'.own p.2 (List.mem_append_left _ (List.mem_map.2 ⟨p, hp, rfl⟩)) b hb
      · obtain ⟨hL, hid⟩ := kill_get ds L i x b hix hb
        rw [h'.old b (h.lt (List.mem_of_getElem? hL) hb) ?_]
        · exact h.own x (List.mem_of_getElem? hL) b hb
        · intro hin
          rcases hob b hin with ⟨p, hp, _, y, hy, hyb⟩ | ⟨d, hd, y, hy, hyb⟩
          · exact hni p hp (blk_pos L h.dis p.1 i y x b hy hL hyb hb)
          · have := blk_pos L h.dis d i y x b hy hL hyb hb
            subst this; exact hid hd
    · exact h'.own x (List.mem_append_right _ hx) b hb
  · rw [List.filterMap_append, hfm, List.nodup_append]
    refine ⟨hk.dis, ?_, ?_⟩
    · have hd := h'.dis
      rw [List.filterMap_append, List.nodup_append] at hd
      exact hd.2.1
    · intro a ha c hc e
      subst e
      obtain ⟨x, hx, hxc⟩ := List.mem_filterMap.1 hc
      obtain ⟨y, hy, hyc⟩ := List.mem_filterMap.1 ha
      obtain ⟨i, hi'⟩ := List.mem_iff_getElem?.1 hy
      obtain ⟨hL, hid⟩ := kill_get ds L i y a hi' hyc
      rcases hN x hx a hxc with ⟨d, hd, z, hz, hzc⟩ | h1
      · have := blk_pos L h.dis d i z y a hz hL hzc hyc
        subst this; exact hid hd
      · have := h.lt (List.mem_of_getElem? hL) hyc
        omega
  · intro x hx b hb
    rcases List.mem_append.1 hx with hx | hx
    · have : b ∈ (kil L ds).filterMap Blk.b := by rw [← hfm]; exact List.mem_filterMap.2 ⟨x, hx, hb⟩
      obtain ⟨y, hy, hyc⟩ := List.mem_filterMap.1 this
      exact hk.new y hy b hyc
    · rcases hN x hx b hb with ⟨d, _, z, hz, hzc⟩ | h1
      · exact h.new z (List.mem_of_getElem? hz) b hzc
      · exact .inr (Nat.le_trans h.size h1)

theorem Mem.appP {w w' : World} {ps : List (Nat × Blk)} {ds : List Nat} {N : List Blk} {ob : List (Option Nat)} (h : Mem w0 W L w) (h' : Mem w (bs ob) (ps.map (·.2) ++ N) w') (pm : List Nat)
    (ho : ob = pm.map fun i => (ps.map (·.2.b) ++ (at_ L ds).map Blk.b).getD i none) (hi : ps.map (fun p => (L[p.1]?).map Blk.b) = ps.map (fun p => some p.2.b))
    (hn : nd (ps.map (·.1) ++ ds) = true) : Mem w0 W (putL (kil L ds) ps ++ N) w' :=
  h.appD h' (fun c hc => by
    rw [ho] at hc
    obtain ⟨i, _, hic⟩ := List.mem_map.1 hc
    rw [List.getD_eq_getElem?_getD] at hic
    cases hg : (ps.map (·.2.b) ++ (at_ L ds).map Blk.b)[i]? with
    | none => rw [hg] at hic; cases hic
    | some o => rw [hg] at hic; simp only [Option.getD_some] at hic; subst hic; exact List.mem_of_getElem? hg) hi hn

/-- a load: as 'p_ld', with the number of cells told apart -/
theorem p_ldx {K : Act → World → Prop} {k : Nat} (m : Nat) (b off : Nat) (vs : List Value) (sz : Nat) (hp : pl n ops k m E = pr n ops k m E) (hq : ldQ P E (opAt ops k).op = some (b, off, true, sz)) (hl : vs.length = sz)
    (h : ∀ w, Mem w0 W L w → At w b off vs) (hk : JK n w0 W K (putE E (opAt ops k) (.agg vs.toArray)) L) : JP P n w0 W ops k K E L Q :=
  p_v m hp _ (fun w hm => ld_run hq hl (.inl rfl) (h w hm)) hk

/-! a slice literal, all of whose elements are told -/
omit dsW in
theorem fill_one (v : List Value) : ∀ (off j : Nat) (cs : Array Value), ((v.zipIdx j).foldl (fun cs (c, i) => cs.setIfInBounds (off + i) c) cs).toList = spl cs.toList (off + j) v := by
  induction v with
  | nil => intro off j cs; rfl
  | cons x v ih =>
    intro off j cs
    simp only [List.zipIdx_cons, List.foldl_cons, spl]
    rw [ih off (j + 1)]
    simp [Nat.add_assoc]

theorem fill_all {size : Nat} : ∀ (vs : List Value) (k : Nat) (pre z : List Value), pre.length = k * size → z.length = vs.length * size → (∀ v ∈ vs, v.cells.size = size) →
    ∃ cs : Array Value, Instr.fill (fun i => some (i * size, size)) (pre ++ z).toArray ((vs.zipIdx k).map fun p => (p.2, p.1)) = some cs ∧ cs.toList = pre ++ vs.flatMap fun v => v.cells.toList := by
  intro vs
  induction vs with
  | nil =>
    intro k pre z _ hz _
    have : z = [] := List.eq_nil_of_length_eq_zero (by simpa using hz)
    subst this
    exact ⟨_, rfl, by simp⟩
  | cons v vs ih =>
    intro k pre z hp hz hv
    have hv0 := hv v (by simp)
    have hz' : z.length = vs.length * size + size := by rw [hz, List.length_cons, Nat.succ_mul]
    have hl : (pre ++ z).toArray.size = pre.length + z.length := by simp
    have hfold : (v.cells.zipIdx.foldl (fun cs (x : Value × Nat) => cs.setIfInBounds (k * size + x.2) x.1) (pre ++ z).toArray).toList = pre ++ v.cells.toList ++ z.drop size := by
      have h1 := fill_one v.cells.toList (k * size) 0 (pre ++ z).toArray
      have h2 : (v.cells.zipIdx.foldl (fun cs (x : Value × Nat) => cs.setIfInBounds (k * size + x.2) x.1) (pre ++ z).toArray) = (v.cells.toList.zipIdx 0).foldl (fun cs (x : Value × Nat) => cs.setIfInBounds (k * size + x.2) x.1) (pre ++ z).toArray := by
        rw [← Array.foldl_toList, Array.toList_zipIdx]
      rw [h2, h1, ← hp, spl_right, spl_all _ _ (by simp; omega)]
      simp [hv0]
    obtain ⟨cs, hc, hcl⟩ := ih (k + 1) (pre ++ v.cells.toList) (z.drop size) (by simp [hp, hv0, Nat.succ_mul]) (by simp; omega) (fun u hu => hv u (by simp [hu]))
    refine ⟨cs, ?_, by rw [hcl]; simp⟩
    rw [List.zipIdx_cons, List.map_cons, Instr.fill]
    simp only []
    rw [if_neg (by simp [hv0]; omega)]
    have : (v.cells.zipIdx.foldl (fun cs (x : Value × Nat) => match x with | (c, j) => cs.setIfInBounds (k * size + j) c) (pre ++ z).toArray) = (pre ++ v.cells.toList ++ z.drop size).toArray := by
      apply Array.ext'
      rw [← hfold]
    rw [this]
    exact hc

def bsQ (P : Program) (E : Env) : Op → Option (TypeId × Nat × Nat × Nat × List (Nat × Option Value))
  | .buildSlice t len parts => match P.underlying t with
    | some (.slice el) => match P.info? el with
      | some i => match i.zero with
        | some z => some (el, i.size, z.cells.size, len, parts.toList.map fun p => (p.1, evo E [] p.2))
        | none => none
      | none => none
    | _ => none
  | _ => none

/-- a row that came in, where some old blocks may be written -/
theorem Mem.exRowW {S : Type} {w : World} (h : Mem w0 W L w) {a : Option Addr} {m : Nat} {enc : S → List Value} {xs : List S} (hr : Rw w0 a m enc xs) (hW : xs ≠ [] → aB a ∉ W) : Rw w a m enc xs := by
  by_cases hx : xs = []
  · subst hx
    exact ⟨fun h => absurd rfl h, fun j x h => by simp at h⟩
  · exact h.exRow hr (hW hx)
theorem Mem.exApart {S : Type} {w : World} (h : Mem w0 W L w) {a : Option Addr} {m : Nat} {enc : S → List Value} {xs : List S} (hr : Rw w0 a m enc xs) (hW : xs ≠ [] → aB a ∉ W) (l : List Nat) {N : List Blk} (hN : at_ L l = N) :
    xs ≠ [] → aB a ∉ bs (N.map Blk.b) := by
  intro hx hin
  subst hN
  rw [bs_map] at hin
  obtain ⟨y, hy, hyb⟩ := List.mem_filterMap.1 hin
  obtain ⟨j, _, hj⟩ := List.mem_filterMap.1 hy
  rcases h.new y (List.mem_of_getElem? hj) _ hyb with h1 | h1
  · exact hW hx h1
  · have := (hr.spot hx).2
    omega
theorem Mem.ownApart {S : Type} {w : World} (h : Mem w0 W L w) {hh : Nat} {o : Option Nat} {T : TypeId} {cs : List Value} {xs : List S} (hx : L[hh]? = some ⟨o, T, cs⟩) (ho : o = none → xs = []) (l : List Nat)
    (hl : l.any (Nat.beq hh) = false) {N : List Blk} (hN : at_ L l = N) : xs ≠ [] → aB (o.map fun b => ⟨b, 0, none⟩) ∉ bs (N.map Blk.b) := by
  intro hne hin
  subst hN
  rw [bs_map] at hin
  obtain ⟨y, hy, hyb⟩ := List.mem_filterMap.1 hin
  obtain ⟨j, hjl, hj⟩ := List.mem_filterMap.1 hy
  cases o with
  | none => exact hne (ho rfl)
  | some b =>
    have := blk_pos L h.dis hh j _ y b hx hj rfl hyb
    subst this
    have := List.any_eq_false.1 hl hh hjl
    simp [Nat.beq_refl] at this

/-- a row that came in, or one of the known blocks: which, is left open -/
def EiR {S : Type} (w0 : World) (W : List Nat) (o : Option Nat) (a : Option Addr) (m : Nat) (enc : S → List Value) (xs : List S) : Prop :=
  (a = (o.map fun b => ⟨b, 0, none⟩) ∧ (o = none → xs = [])) ∨ (o = none ∧ Rw w0 a m enc xs ∧ (xs ≠ [] → aB a ∉ W))
theorem Mem.eiRow {S : Type} {w : World} (h : Mem w0 W L w) {hh : Nat} {o : Option Nat} {a : Option Addr} {T : TypeId} {enc : S → List Value} {xs : List S} {sp : List Value} {m : Nat}
    (hx : L[hh]? = some ⟨o, T, row enc xs sp⟩) (he : EiR w0 W o a m enc xs) (hm : ∀ x, (enc x).length = m) : Rw w a m enc xs := by
  rcases he with ⟨rfl, h1⟩ | ⟨_, h1, h2⟩
  · exact h.ownRow hx h1 hm
  · exact h.exRowW h1 h2
/-- a row that is another known row, or one of the known blocks: which, is left open -/
def EiA {S : Type} (o : Option Nat) (a : Option Addr) (xs : List S) (a' : Option Addr) (xs' : List S) : Prop :=
  (a = (o.map fun b => ⟨b, 0, none⟩) ∧ (o = none → xs = [])) ∨ (o = none ∧ a = a' ∧ xs = xs')
theorem Mem.eiRowA {S : Type} {w : World} (h : Mem w0 W L w) {hh : Nat} {o : Option Nat} {a a' : Option Addr} {T : TypeId} {enc : S → List Value} {xs xs' : List S} {sp : List Value} {m : Nat}
    (hx : L[hh]? = some ⟨o, T, row enc xs sp⟩) (he : EiA o a xs a' xs') (hr : Rw w a' m enc xs') (hm : ∀ x, (enc x).length = m) : Rw w a m enc xs := by
  rcases he with ⟨rfl, h1⟩ | ⟨_, rfl, rfl⟩
  · exact h.ownRow hx h1 hm
  · exact hr
theorem jc_ghostX {S : Type} {c : Code} (T : TypeId) (enc : S → List Value) (xs : List S) (h : JC P n w0 W c E (L ++ [⟨none, T, row enc xs []⟩]) Q) : JC P n w0 W c E L Q :=
  fun a w hok => h a w (hok.mem' (hok.mem.ghost T _))
theorem jx_ghostX {S : Type} {e : Exit} (T : TypeId) (enc : S → List Value) (xs : List S) (h : JX n w0 W e E (L ++ [⟨none, T, row enc xs []⟩]) Q) : JX n w0 W e E L Q :=
  fun a w hok => h a w (hok.mem' (hok.mem.ghost T _))


/-! ### bits, shifts, division by what is no numeral -/
abbrev bAnd (k : IntKind) (x y : Int) : Int := k.wrap (BitVec.ofInt k.bits x &&& BitVec.ofInt k.bits y).toNat
abbrev bOr (k : IntKind) (x y : Int) : Int := k.wrap (BitVec.ofInt k.bits x ||| BitVec.ofInt k.bits y).toNat
abbrev bXor (k : IntKind) (x y : Int) : Int := k.wrap (BitVec.ofInt k.bits x ^^^ BitVec.ofInt k.bits y).toNat
abbrev bClr (k : IntKind) (x y : Int) : Int := k.wrap (BitVec.ofInt k.bits x &&& ~~~(BitVec.ofInt k.bits y)).toNat
abbrev bShl (k : IntKind) (x y : Int) : Int := k.wrap (x * 2 ^ (min y.toNat k.bits))
abbrev bShr (k : IntKind) (x y : Int) : Int := x.fdiv (2 ^ (min y.toNat k.bits))

def binQ (E : Env) : Op → Option (BinOp × Value × Value)
  | .binOp o _ x y _ => match evo E [] x, evo E [] y with
    | some u, some v => some (o, u, v)
    | _, _ => none
  | _ => none

theorem p_shl {K : Act → World → Prop} {k : Nat} (m : Nat) (kx : IntKind) (x : Int) (ky : IntKind) (y : Int) (hp : pl n ops k m E = pr n ops k m E) (hq : binQ E (opAt ops k).op = some (.shl, .int kx x, .int ky y)) (h0 : 0 ≤ y)
    (hk : JK n w0 W K (putE E (opAt ops k) (.int kx (bShl kx x y))) L) : JP P n w0 W ops k K E L Q :=
  p_v m hp _ (fun w hm => by
    unfold binQ at hq
    split at hq
    · rename_i o T a b pos ho
      split at hq
      · rename_i u v hu hv
        simp only [Option.some.injEq, Prod.mk.injEq] at hq
        obtain ⟨rfl, rfl, rfl⟩ := hq
        have eu : ev E [] a = .int kx x := by simp [ev, hu]
        have ev' : ev E [] b = .int ky y := by simp [ev, hv]
        simp [execOp, ho, eu, ev', eqGuard, binOp, Op.shift, show ¬ y < 0 by omega, bShl]
      · cases hq
    · cases hq) hk
theorem p_shr {K : Act → World → Prop} {k : Nat} (m : Nat) (kx : IntKind) (x : Int) (ky : IntKind) (y : Int) (hp : pl n ops k m E = pr n ops k m E) (hq : binQ E (opAt ops k).op = some (.shr, .int kx x, .int ky y)) (h0 : 0 ≤ y)
    (hk : JK n w0 W K (putE E (opAt ops k) (.int kx (bShr kx x y))) L) : JP P n w0 W ops k K E L Q :=
  p_v m hp _ (fun w hm => by
    unfold binQ at hq
    split at hq
    · rename_i o T a b pos ho
      split at hq
      · rename_i u v hu hv
        simp only [Option.some.injEq, Prod.mk.injEq] at hq
        obtain ⟨rfl, rfl, rfl⟩ := hq
        have eu : ev E [] a = .int kx x := by simp [ev, hu]
        have ev' : ev E [] b = .int ky y := by simp [ev, hv]
        simp [execOp, ho, eu, ev', eqGuard, binOp, Op.shift, show ¬ y < 0 by omega, bShr]
      · cases hq
    · cases hq) hk
theorem p_quo {K : Act → World → Prop} {k : Nat} (m : Nat) (kx : IntKind) (x y : Int) (hp : pl n ops k m E = pr n ops k m E) (hq : binQ E (opAt ops k).op = some (.quo, .int kx x, .int kx y)) (h0 : y ≠ 0)
    (hk : JK n w0 W K (putE E (opAt ops k) (.int kx (IntKind.wrap kx (Int.tdiv x y)))) L) : JP P n w0 W ops k K E L Q :=
  p_v m hp _ (fun w hm => by
    unfold binQ at hq
    split at hq
    · rename_i o T a b pos ho
      split at hq
      · rename_i u v hu hv
        simp only [Option.some.injEq, Prod.mk.injEq] at hq
        obtain ⟨rfl, rfl, rfl⟩ := hq
        have eu : ev E [] a = .int kx x := by simp [ev, hu]
        have ev' : ev E [] b = .int kx y := by simp [ev, hv]
        simp [execOp, ho, eu, ev', eqGuard, binOp, Op.intDiv, h0]
      · cases hq
    · cases hq) hk
theorem p_rem {K : Act → World → Prop} {k : Nat} (m : Nat) (kx : IntKind) (x y : Int) (hp : pl n ops k m E = pr n ops k m E) (hq : binQ E (opAt ops k).op = some (.rem, .int kx x, .int kx y)) (h0 : y ≠ 0)
    (hk : JK n w0 W K (putE E (opAt ops k) (.int kx (Int.tmod x y))) L) : JP P n w0 W ops k K E L Q :=
  p_v m hp _ (fun w hm => by
    unfold binQ at hq
    split at hq
    · rename_i o T a b pos ho
      split at hq
      · rename_i u v hu hv
        simp only [Option.some.injEq, Prod.mk.injEq] at hq
        obtain ⟨rfl, rfl, rfl⟩ := hq
        have eu : ev E [] a = .int kx x := by simp [ev, hu]
        have ev' : ev E [] b = .int kx y := by simp [ev, hv]
        simp [execOp, ho, eu, ev', eqGuard, binOp, Op.intDiv, h0]
      · cases hq
    · cases hq) hk

omit dsW in
theorem set_ho {S : Type} {o : Option Nat} {xs : List S} {c j : Nat} {y : S} (h : o = none → xs = [] ∧ c = 0) : o = none → xs.set j y = [] ∧ c = 0 :=
  fun e => ⟨by rw [(h e).1]; rfl, (h e).2⟩

/-- a store into a row that may be nil: here it is not -/
theorem p_strO {K : Act → World → Prop} {S : Type} {k : Nat} (m hh : Nat) (o : Option Nat) (T : TypeId) (enc : S → List Value) (xs : List S) (sp : List Value) (j : Int) (y : S) (size f : Nat) (vs : List Value) {x : S}
    (hp : pl n ops k m E = pr n ops k m E) (hq : stQ P E (opAt ops k).op = some (aB (o.map fun b => ⟨b, 0, none⟩), aO (o.map fun b => ⟨b, 0, none⟩) + j.toNat * size + f, vs)) (hL : L[hh]? = some ⟨o, T, row enc xs sp⟩)
    (ho : o = none → xs = []) (hm : ∀ x, (enc x).length = size)
    (hx : ix xs j = some x) (hf : Nat.ble (f + vs.length) size = true) (he : spl (enc x) f vs = enc y)
    (hk : JK n w0 W K (putE E (opAt ops k) undef) (L.set hh ⟨o, T, row enc (xs.set j.toNat y) sp⟩)) : JP P n w0 W ops k K E L Q := by
  cases o with
  | none => rw [ho rfl] at hx; simp [ix] at hx
  | some b => exact p_str m hh b T enc xs sp j y size f vs hp hq hL hm hx hf he hk

/-- an element of an array that is a value: elements of one cell -/
def ixQ (P : Program) (E : Env) : Op → Option (Array Value × Nat × Int)
  | .index T x i => match evo E [] x, evo E [] i, P.underlying T with
    | some (.agg cs), some (.int _ j), some (.array len el) => match P.underlying el, P.info? el with
      | some (.struct _), _ => none
      | some (.array _ _), _ => none
      | some _, some t => bif Nat.beq t.size 1 then some (cs, len, j) else none
      | _, _ => none
    | _, _, _ => none
  | _ => none

omit dsW in
theorem row_one {S : Type} {enc : S → List Value} {v : S → Value} (hv : ∀ x, enc x = [v x]) (xs : List S) (i : Nat) (x : S) (h : xs[i]? = some x) : (row enc xs [])[i]? = some (v x) := by
  have := flatMap_get (enc := enc) (m := 1) (fun x => by rw [hv]; rfl) xs i x h 0 (v x) (by rw [hv]; rfl)
  simpa [row] using this

theorem p_ixA {K : Act → World → Prop} {S : Type} {N : Nat} {k : Nat} (m : Nat) (enc : S → List Value) (v : S → Value) (a : Arr N S) (j : Int) {x : S} (hp : pl n ops k m E = pr n ops k m E)
    (hq : ixQ P E (opAt ops k).op = some ((row enc a.1 []).toArray, N, j)) (hv : ∀ x, enc x = [v x]) (hx : ix a.1 j = some x)
    (hk : JK n w0 W K (putE E (opAt ops k) (v x)) L) : JP P n w0 W ops k K E L Q :=
  p_v m hp _ (fun w hm => by
    obtain ⟨h0, h1, h2⟩ := ix_some hx
    have h1' : j < (N : Int) := by rw [a.2] at h1; exact h1
    unfold ixQ at hq
    split at hq
    · rename_i T y i ho
      split at hq
      · rename_i cs kk jj len el hy hi hT
        have ey : ev E [] y = .agg cs := by simp [ev, hy]
        have ei : ev E [] i = .int kk jj := by simp [ev, hi]
        split at hq
        · cases hq
        · cases hq
        · rename_i d t ha hb hd ht
          cases hb1 : Nat.beq t.size 1 with
          | false => rw [hb1] at hq; simp at hq
          | true =>
            rw [hb1] at hq
            simp only [cond_true, Option.some.injEq, Prod.mk.injEq] at hq
            obtain ⟨rfl, rfl, rfl⟩ := hq
            have hs1 := Nat.eq_of_beq_eq_true hb1
            have hagg : (isAgg el).run P w = .ok false w := by
              unfold isAgg
              cases d with
              | struct fs => exact (ha fs rfl).elim
              | array q e => exact (hb q e rfl).elim
              | _ => simp [underlying, program, Sem.run, hd]
            have hg := row_one hv a.1 jj.toNat x h2
            simp [execOp, ho, Instr.index, ey, ei, asIntOf, underlying, program, Sem.run, hT, h0, h1', part, hagg, run_sizeOf ht, hs1, hg]
        · cases hq
      · cases hq
    · cases hq) hk

theorem toD4 {Ls : List Blk} {done : List Nat} {fuel : Nat} (k1 k2 k3 k4 : Nat) (hr : Region.ready .any ops (listed ops done) = [k1, k2, k3, k4]) (h1 : JP P n w0 W ops k1 (KD P w0 W ops Q Ls done fuel k1) E L Q)
    (h2 : JP P n w0 W ops k2 (KD P w0 W ops Q Ls done fuel k2) E L Q) (h3 : JP P n w0 W ops k3 (KD P w0 W ops Q Ls done fuel k3) E L Q) (h4 : JP P n w0 W ops k4 (KD P w0 W ops Q Ls done fuel k4) E L Q) : JD P n w0 W ops Ls done (fuel + 1) E L Q := by
  intro a w hok
  refine wpAnyH_all hr (by simp) ?_
  intro i hi
  simp only [List.mem_cons, List.not_mem_nil, or_false] at hi
  rcases hi with rfl | rfl | rfl | rfl
  · exact h1 a w hok
  · exact h2 a w hok
  · exact h3 a w hok
  · exact h4 a w hok

/-- the memory a function begins with -/
theorem Mem.start (w : World) : Mem w [] [] w := ⟨rfl, rfl, rfl, Drw.of_le (Nat.le_refl _), Nat.le_refl _, fun _ _ _ => rfl, by simp, by simp, by simp⟩

/-- 'p_ap' with the length as it is spelled -/
theorem p_apn {K : Act → World → Prop} {S : Type} {k : Nat} (m hh : Nat) (o : Option Nat) (el : TypeId) (sl nn cap size bytes : Nat) (xa : Option Addr) (enc : S → List Value) (xs ys : List S) (sp : List Value) (zv : Value)
    (hsl : xs.length = sl) (hnn : ys.length = nn)
    (hp : pl n ops k m E = pr n ops k m E) (hq : apQ P E (opAt ops k).op = some (o.map fun b => ⟨b, 0, none⟩, sl, cap, xa, nn, el, size, bytes))
    (hL : L[hh]? = some ⟨o, el, row enc xs sp⟩) (hm : ∀ x, (enc x).length = size) (hc : ∀ x, (enc x).all isCell = true)
    (hsp : o ≠ none → sl ≤ cap ∧ sp.length = (cap - sl) * size) (ho : o = none → xs = [] ∧ cap = 0)
    (hys : ∀ w, Mem w0 W L w → Rw w xa size enc ys) (hbig : xs.length + ys.length ≤ 4294967296) (hz : (P.info? el).bind (·.zero) = some zv)
    (hb : (Nat.ble bytes 4096 && Nat.blt 0 bytes && Nat.blt 0 size && Nat.beq zv.cells.size size) = true)
    (hk : ∀ (o' : Option Nat) (cap' : Nat) (sp' : List Value), (o' ≠ none → (xs ++ ys).length ≤ cap' ∧ sp'.length = (cap' - (xs ++ ys).length) * size) → (o' = none → xs ++ ys = [] ∧ cap' = 0) →
      JK n w0 W K (putE E (opAt ops k) (.slice (o'.map fun b => ⟨b, 0, none⟩) (xs ++ ys).length cap')) (L.set hh ⟨o', el, row enc (xs ++ ys) sp'⟩)) : JP P n w0 W ops k K E L Q := by
  subst hsl hnn
  exact p_ap m hh o el cap ys.length size bytes xa enc xs ys sp zv hp hq hL hm hc hsp ho hys hbig hz hb hk

omit dsW in
theorem ltn {S : Type} {xs : List S} {j : Int} {x : S} {k : Nat} (h : ix xs j = some x) (hn : xs.length = k) : j < (k : Int) := hn ▸ (ix_some h).2.1

abbrev w64 (x : Int) : Int := IntKind.wrap .i64 x
abbrev w32 (x : Int) : Int := IntKind.wrap .i32 x
abbrev w16 (x : Int) : Int := IntKind.wrap .i16 x
abbrev w8 (x : Int) : Int := IntKind.wrap .i8 x
abbrev u64 (x : Int) : Int := IntKind.wrap .u64 x
abbrev u32 (x : Int) : Int := IntKind.wrap .u32 x
abbrev u16 (x : Int) : Int := IntKind.wrap .u16 x
abbrev u8 (x : Int) : Int := IntKind.wrap .u8 x

end rules
section rules2
variable {P : Program} {n : Nat} {w0 : World} {W : List Nat} {Q : Exit → Act → World → Prop} {E : Env} {L : List Blk} {ops : Array Oper}

/-! ### a slice literal of elements that are told -/
theorem bs_run {o : Oper} {el : TypeId} {size len : Nat} {vs : List Value} {w : World} (hq : bsQ P E o.op = some (el, size, size, len, (vs.zipIdx 0).map fun p => (p.2, some p.1)))
    (hl : vs.length = len) (hb : (Nat.ble (len * size) 16777216 && Nat.blt 0 (len * size)) = true) (hs : ∀ v ∈ vs, v.cells.size = size) :
    (execOp (ev E []) o).run P w = .ok (.value (.slice (some ⟨w.heap.size, 0, none⟩) len len)) { w with heap := w.heap.push (.cells (vs.flatMap fun v => v.cells.toList).toArray el (0, 0)) } := by
  simp only [Bool.and_eq_true] at hb
  have hb1 := Nat.le_of_ble_eq_true hb.1
  have hb2 := blt hb.2
  unfold bsQ at hq
  split at hq
  · rename_i t len' parts ho
    split at hq
    · rename_i el' hT
      split at hq
      · rename_i i hi
        split at hq
        · rename_i z hz
          simp only [Option.some.injEq, Prod.mk.injEq] at hq
          obtain ⟨rfl, rfl, hzs, rfl, hp⟩ := hq
          have hparts : (parts.map fun (x : Nat × Operand) => (x.1, ev E [] x.2)).toList = (vs.zipIdx 0).map fun p => (p.2, p.1) := by
            rw [Array.toList_map]
            have h2 := congrArg (List.map fun (q : Nat × Option Value) => (q.1, q.2.getD undef)) hp
            simp only [List.map_map] at h2
            exact h2
          have hti : ∀ w : World, (typeInfo el').run P w = .ok i w := by intro w; simp [typeInfo, program, Sem.run, hi]
          have hzr : ∀ w : World, (zeroValue el').run P w = .ok z w := by intro w; simp [zeroValue, hti, hz]
          have hsr : ∀ w : World, (sizeOf el').run P w = .ok i.size w := by intro w; simp [sizeOf, hti]
          have c1 : ¬ (len' * i.size > 2 ^ 24) := by omega
          have c2 : ¬ (len' * i.size = 0) := by omega
          obtain ⟨cs, hf, hcs⟩ := fill_all (size := i.size) vs 0 [] ((Array.range (len' * i.size)).map (fun x => z.cells[x % z.cells.size]!)).toList (by simp) (by simp [hl]) hs
          simp only [List.nil_append, Array.toArray_toList] at hf hcs
          simp only [execOp, ho, Instr.buildSlice, underlying, program, Sem.run_bind, Sem.run, hT, Result.andThen_ok, Sem.run_pure, hsr, c1, c2, if_false, hzr, hparts]
          rw [hf]
          simp only [newRow, newObj, Sem.run_bind, Sem.run, Result.andThen_ok, Sem.run_pure]
          rw [← hcs]
        · simp at hq
      · simp at hq
    · simp at hq
  · simp at hq

theorem p_bs {K : Act → World → Prop} {S : Type} {k : Nat} (m : Nat) (el : TypeId) (size len : Nat) (enc : S → List Value) (vs : List Value) (xs : List S) (hp : pl n ops k m E = pr n ops k m E)
    (hq : bsQ P E (opAt ops k).op = some (el, size, size, len, (vs.zipIdx 0).map fun p => (p.2, some p.1))) (hv : vs.map (fun v => v.cells.toList) = xs.map enc) (hl : vs.length = len)
    (hb : (Nat.ble (len * size) 16777216 && Nat.blt 0 (len * size)) = true) (hm : ∀ x, (enc x).length = size)
    (hk : ∀ b, JK n w0 W K (putE E (opAt ops k) (.slice (some ⟨b, 0, none⟩) len len)) (L ++ [⟨some b, el, row enc xs []⟩])) : JP P n w0 W ops k K E L Q := by
  have h := pre_ok hp
  intro a w hok
  have hw := gok_wanted hok h.2.1
  unfold wpOp
  simp only [h.1, hw, if_true]
  refine .inl ?_
  unfold Oper.wp
  have hs : ∀ v ∈ vs, v.cells.size = size := by
    intro v hv'
    have : v.cells.toList ∈ xs.map enc := hv ▸ List.mem_map.2 ⟨v, hv', rfl⟩
    obtain ⟨x, _, hx⟩ := List.mem_map.1 this
    rw [← hm x, hx]; simp
  rw [exec_known hok (G := []) (by simp) h.2.2.2.1 h.2.2.2.2, bs_run hq hl hb hs]
  have hm := hok.mem.alloc (vs.flatMap fun v => v.cells.toList).toArray el
  refine hk w.heap.size _ _ (putE_ok (hok.mem' ?_) h.2.2.1 _)
  have e : row enc xs [] = vs.flatMap fun v => v.cells.toList := by
    rw [row, List.append_nil, List.flatMap_def, List.flatMap_def, ← hv]
  rw [e]
  simpa using hm

/-! ### whether a slice is nil -/
def nlQ (E : Env) (P : Program) : Op → Option (Option Addr × Bool)
  | .binOp o t x y _ => match o, P.underlying t, evo E [] x, evo E [] y with
    | .eql, some (.slice _), some (.slice a _ _), some (.slice none _ _) => some (a, true)
    | .neq, some (.slice _), some (.slice a _ _), some (.slice none _ _) => some (a, false)
    | _, _, _, _ => none
  | _ => none

omit dsW in
theorem run_eqnil {t : TypeId} {d : TypeId} (hT : P.underlying t = some (.slice d)) (a : Option Addr) (l c l' c' : Nat) (w : World) :
    (Op.equal t (.slice a l c) (.slice none l' c')).run P w = .ok a.isNone w := by
  unfold Op.equal Op.maxDepth
  rw [Op.equalIn]
  cases a <;> simp [underlying, program, Sem.run, hT]

omit dsW in
theorem nl_run {o : Oper} {a : Option Addr} {q : Bool} {w : World} (hq : nlQ E P o.op = some (a, q)) : (execOp (ev E []) o).run P w = .ok (.value (.bool (a.isNone == q))) w := by
  unfold nlQ at hq
  split at hq
  · rename_i oo t x y yt ho
    split at hq
    · rename_i d a' l c l' c' hT hx hy
      simp only [Option.some.injEq, Prod.mk.injEq] at hq
      obtain ⟨rfl, rfl⟩ := hq
      have ex : ev E [] x = .slice a' l c := by simp [ev, hx]
      have ey : ev E [] y = .slice none l' c' := by simp [ev, hy]
      simp [execOp, ho, ex, ey, eqGuard, binOp, run_eqnil hT]
    · rename_i d a' l c l' c' hT hx hy
      simp only [Option.some.injEq, Prod.mk.injEq] at hq
      obtain ⟨rfl, rfl⟩ := hq
      have ex : ev E [] x = .slice a' l c := by simp [ev, hx]
      have ey : ev E [] y = .slice none l' c' := by simp [ev, hy]
      simp [execOp, ho, ex, ey, eqGuard, binOp, run_eqnil hT]
    · cases hq
  · cases hq

theorem p_nil {K : Act → World → Prop} {k : Nat} (m : Nat) (a : Option Addr) (q b : Bool) (hp : pl n ops k m E = pr n ops k m E) (hq : nlQ E P (opAt ops k).op = some (a, q)) (hb : (a.isNone == q) = b)
    (hk : JK n w0 W K (putE E (opAt ops k) (.bool b)) L) : JP P n w0 W ops k K E L Q :=
  p_v m hp _ (fun w hm => hb ▸ nl_run hq) hk

/-! ### parts of rows -/
/-- the address of a part that begins at l -/
def pa (a : Option Addr) (l cap size : Nat) : Option Addr := if cap = l then a else a.map (·.add (l * size))
omit dsW in
theorem pa_aB (a : Option Addr) (l cap size : Nat) : aB (pa a l cap size) = aB a := by
  unfold pa
  split
  · rfl
  · cases a with
    | none => rfl
    | some a => obtain ⟨b, o, s⟩ := a; simp only [Option.map_some, aB, Addr.add]; split <;> rfl
omit dsW in
theorem pa_zero (a : Option Addr) (cap size : Nat) : pa a 0 cap size = a := by
  unfold pa
  split
  · rfl
  · cases a with
    | none => rfl
    | some a => simp [Addr.add]
omit dsW in
theorem Rw.part {S : Type} {w : World} {a : Option Addr} {m : Nat} {enc : S → List Value} {xs : List S} (h : Rw w a m enc xs) (l k cap : Nat) (hc : xs.length ≤ cap) : Rw w (pa a l cap m) m enc ((xs.drop l).take k) := by
  have key : ∀ (j : Nat) (x : S), ((xs.drop l).take k)[j]? = some x → xs[l + j]? = some x := by
    intro j x hx
    rw [List.getElem?_take] at hx
    split at hx
    · rwa [List.getElem?_drop] at hx
    · cases hx
  have hsp : ∀ (j : Nat) (x : S), ((xs.drop l).take k)[j]? = some x → a = some ⟨aB a, aO a, none⟩ ∧ pa a l cap m = some ⟨aB a, aO a + l * m, none⟩ ∧ aB a < w.heap.size := by
    intro j x hx
    have h1 := key j x hx
    have hlt : l + j < xs.length := by
      rcases Nat.lt_or_ge (l + j) xs.length with h' | h'
      · exact h'
      · simp [List.getElem?_eq_none h'] at h1
    have hne : xs ≠ [] := by rintro rfl; simp at hlt
    obtain ⟨h2, h3⟩ := h.spot hne
    refine ⟨h2, ?_, h3⟩
    unfold pa
    rw [if_neg (by omega), h2]
    simp only [Option.map_some, addr_add]
    simp [aB, aO]
  constructor
  · intro hne
    obtain ⟨x, hx⟩ : ∃ x, ((xs.drop l).take k)[0]? = some x := by
      cases hh : (xs.drop l).take k with
      | nil => exact absurd hh hne
      | cons x t => exact ⟨x, rfl⟩
    obtain ⟨h1, h2, h3⟩ := hsp 0 x hx
    rw [h2]
    exact ⟨by simp [aB, aO], by simpa [aB] using h3⟩
  · intro j x hx
    obtain ⟨h1, h2, h3⟩ := hsp j x hx
    have := h.cell (l + j) x (key j x hx)
    rw [h2]
    simp only [aB, aO] at this ⊢
    rw [Nat.add_mul, ← Nat.add_assoc] at this
    exact this
omit dsW in
theorem Rw.hd {S : Type} {w : World} {a : Option Addr} {m : Nat} {enc : S → List Value} {xs : List S} (h : Rw w a m enc xs) (k : Nat) : Rw w a m enc (xs.take k) := by
  have := h.part 0 k xs.length (Nat.le_refl _)
  rwa [pa_zero, List.drop_zero] at this
omit dsW in
theorem Rw.tl {S : Type} {w : World} {a : Option Addr} {m : Nat} {enc : S → List Value} {xs : List S} (h : Rw w a m enc xs) (l cap : Nat) (hc : xs.length ≤ cap) : Rw w (pa a l cap m) m enc (xs.drop l) := by
  have := h.part l xs.length cap hc
  rwa [List.take_of_length_le (by simp)] at this
omit dsW in
theorem part_apart {S : Type} {a : Option Addr} {xs : List S} {B : List Nat} (h : xs ≠ [] → aB a ∉ B) (l k cap m : Nat) : (xs.drop l).take k ≠ [] → aB (pa a l cap m) ∉ B := by
  intro hne
  rw [pa_aB]
  apply h
  rintro rfl
  simp at hne
omit dsW in
theorem hd_apart {S : Type} {a : Option Addr} {xs : List S} {B : List Nat} (h : xs ≠ [] → aB a ∉ B) (k : Nat) : xs.take k ≠ [] → aB a ∉ B := by
  intro hne; apply h; rintro rfl; simp at hne
omit dsW in
theorem tl_apart {S : Type} {a : Option Addr} {xs : List S} {B : List Nat} (h : xs ≠ [] → aB a ∉ B) (l cap m : Nat) : xs.drop l ≠ [] → aB (pa a l cap m) ∉ B := by
  intro hne; rw [pa_aB]; apply h; rintro rfl; simp at hne
omit dsW in
theorem hd_len {S : Type} {xs : List S} {h : Int} (hg : 0 ≤ h ∧ h ≤ xs.length) : (xs.take h.toNat).length = h.toNat := by rw [List.length_take]; omega
omit dsW in
theorem tl_len {S : Type} {xs : List S} {n : Nat} (hn : xs.length = n) (l : Int) : (xs.drop l.toNat).length = n - l.toNat := by rw [List.length_drop, hn]
omit dsW in
theorem part_len {S : Type} {xs : List S} {l h : Int} (hg : 0 ≤ l ∧ l ≤ h ∧ h ≤ xs.length) : ((xs.drop l.toNat).take (h.toNat - l.toNat)).length = h.toNat - l.toNat := by
  rw [List.length_take, List.length_drop]; omega
omit dsW in
theorem cap_le {S : Type} {o : Option Nat} {xs : List S} {n cap k : Nat} {sp : List Value} (hn : xs.length = n) (hs : o ≠ none → n ≤ cap ∧ sp.length = k) (ho : o = none → xs = [] ∧ cap = 0) : xs.length ≤ cap := by
  cases o with
  | none => obtain ⟨rfl, rfl⟩ := ho rfl; simp
  | some b => rw [hn]; exact (hs (by simp)).1

def oI (E : Env) : Option Operand → Option (Option Int)
  | none => some none
  | some x => match evo E [] x with
    | some (.int _ i) => some (some i)
    | _ => none
/-- a slice of a slice: the address, the length, the room, the bounds, an element's size -/
def slQ (P : Program) (E : Env) : Op → Option (Option Addr × Nat × Nat × Option Int × Option Int × Option Int × Nat)
  | .slice T x lo hi mx => match evo E [] x, P.underlying T, oI E lo, oI E hi, oI E mx with
    | some (.slice a len cap), some (.slice el), some lo', some hi', some mx' => (P.info? el).map fun t => (a, len, cap, lo', hi', mx', t.size)
    | _, _, _, _, _ => none
  | _ => none
omit dsW in
theorem oI_none {x : Option Operand} (h : oI E x = some none) : x = none := by
  unfold oI at h
  split at h
  · rfl
  · split at h <;> cases h
omit dsW in
theorem oI_some {x : Option Operand} {i : Int} (h : oI E x = some (some i)) : ∃ y k, x = some y ∧ ev E [] y = .int k i := by
  unfold oI at h
  split at h
  · cases h
  · rename_i y
    split at h
    · rename_i k j hy
      cases h
      exact ⟨y, k, rfl, by simp [ev, hy]⟩
    · cases h
omit dsW in
theorem run_bound {v : Value} {k : IntKind} {i : Int} (hv : v = .int k i) {y : Nat} (h0 : 0 ≤ i) (h1 : i ≤ y) (c : BoundsCode) (w : World) : (Instr.sliceBound v y c).run P w = .ok i.toNat w := by
  subst hv
  simp [Instr.sliceBound, asIntOf, h0, h1]

omit dsW in
theorem slH_run {o : Oper} {a : Option Addr} {len cap size : Nat} {h : Int} {w : World} (hq : slQ P E o.op = some (a, len, cap, none, some h, none, size)) (h0 : 0 ≤ h) (h1 : h ≤ cap) :
    (execOp (ev E []) o).run P w = .ok (.value (.slice a h.toNat cap)) w := by
  unfold slQ at hq
  split at hq
  · rename_i T x lo hi mx ho
    split at hq
    · rename_i a' len' cap' el lo' hi' mx' hx hT hlo hhi hmx
      simp only [Option.map_eq_some_iff, Prod.mk.injEq] at hq
      obtain ⟨t, ht, rfl, rfl, rfl, rfl, rfl, rfl, rfl⟩ := hq
      have ex : ev E [] x = .slice a' len' cap' := by simp [ev, hx]
      obtain rfl := oI_none hlo
      obtain rfl := oI_none hmx
      obtain ⟨y, k, rfl, hy⟩ := oI_some hhi
      have hb := run_bound (P := P) hy h0 h1
      have hz : (if cap' = 0 then a' else a'.map (·.add (0 * t.size))) = a' := pa_zero a' cap' t.size
      simp only [execOp, ho, ex, Instr.sliceAt, Instr.slice, Instr.sliceBounds, Option.map_none, Option.map_some, underlying, program, Sem.run_bind, Sem.run, hT, Result.andThen_ok, Sem.run_pure, Option.isSome_none, Bool.false_eq_true, if_false, if_true, hb, run_sizeOf ht, hz, Nat.sub_zero]
    · cases hq
  · cases hq
omit dsW in
theorem slL_run {o : Oper} {a : Option Addr} {len cap size : Nat} {l : Int} {w : World} (hq : slQ P E o.op = some (a, len, cap, some l, none, none, size)) (h0 : 0 ≤ l) (h1 : l ≤ len) :
    (execOp (ev E []) o).run P w = .ok (.value (.slice (pa a l.toNat cap size) (len - l.toNat) (cap - l.toNat))) w := by
  unfold slQ at hq
  split at hq
  · rename_i T x lo hi mx ho
    split at hq
    · rename_i a' len' cap' el lo' hi' mx' hx hT hlo hhi hmx
      simp only [Option.map_eq_some_iff, Prod.mk.injEq] at hq
      obtain ⟨t, ht, rfl, rfl, rfl, rfl, rfl, rfl, rfl⟩ := hq
      have ex : ev E [] x = .slice a' len' cap' := by simp [ev, hx]
      obtain rfl := oI_none hhi
      obtain rfl := oI_none hmx
      obtain ⟨y, k, rfl, hy⟩ := oI_some hlo
      have hb := run_bound (P := P) hy h0 h1
      simp only [execOp, ho, ex, Instr.sliceAt, Instr.slice, Instr.sliceBounds, Option.map_none, Option.map_some, underlying, program, Sem.run_bind, Sem.run, hT, Result.andThen_ok, Sem.run_pure, Option.isSome_none, Bool.false_eq_true, if_false, if_true, hb, run_sizeOf ht, pa]
    · cases hq
  · cases hq
omit dsW in
theorem slLH_run {o : Oper} {a : Option Addr} {len cap size : Nat} {l h : Int} {w : World} (hq : slQ P E o.op = some (a, len, cap, some l, some h, none, size)) (h0 : 0 ≤ l) (h1 : l ≤ h) (h2 : h ≤ cap) :
    (execOp (ev E []) o).run P w = .ok (.value (.slice (pa a l.toNat cap size) (h.toNat - l.toNat) (cap - l.toNat))) w := by
  unfold slQ at hq
  split at hq
  · rename_i T x lo hi mx ho
    split at hq
    · rename_i a' len' cap' el lo' hi' mx' hx hT hlo hhi hmx
      simp only [Option.map_eq_some_iff, Prod.mk.injEq] at hq
      obtain ⟨t, ht, rfl, rfl, rfl, rfl, rfl, rfl, rfl⟩ := hq
      have ex : ev E [] x = .slice a' len' cap' := by simp [ev, hx]
      obtain rfl := oI_none hmx
      obtain ⟨y, k, rfl, hy⟩ := oI_some hlo
      obtain ⟨y', k', rfl, hy'⟩ := oI_some hhi
      have hb := run_bound (P := P) hy h0 (y := h.toNat) (by omega)
      have hb' := run_bound (P := P) hy' (by omega) h2
      simp only [execOp, ho, ex, Instr.sliceAt, Instr.slice, Instr.sliceBounds, Option.map_none, Option.map_some, underlying, program, Sem.run_bind, Sem.run, hT, Result.andThen_ok, Sem.run_pure, Option.isSome_none, Bool.false_eq_true, if_false, if_true, hb, hb', run_sizeOf ht, pa]
    · cases hq
  · cases hq
omit dsW in
theorem slM_run {o : Oper} {a : Option Addr} {len cap size : Nat} {l h z : Int} {w : World} (hq : slQ P E o.op = some (a, len, cap, some l, some h, some z, size)) (h0 : 0 ≤ l) (h1 : l ≤ h) (h2 : h ≤ z) (h3 : z ≤ cap) :
    (execOp (ev E []) o).run P w = .ok (.value (.slice (pa a l.toNat z.toNat size) (h.toNat - l.toNat) (z.toNat - l.toNat))) w := by
  unfold slQ at hq
  split at hq
  · rename_i T x lo hi mx ho
    split at hq
    · rename_i a' len' cap' el lo' hi' mx' hx hT hlo hhi hmx
      simp only [Option.map_eq_some_iff, Prod.mk.injEq] at hq
      obtain ⟨t, ht, rfl, rfl, rfl, rfl, rfl, rfl, rfl⟩ := hq
      have ex : ev E [] x = .slice a' len' cap' := by simp [ev, hx]
      obtain ⟨y, k, rfl, hy⟩ := oI_some hlo
      obtain ⟨y', k', rfl, hy'⟩ := oI_some hhi
      obtain ⟨y2, k2, rfl, hy2⟩ := oI_some hmx
      have hb := run_bound (P := P) hy h0 (y := h.toNat) (by omega)
      have hb' := run_bound (P := P) hy' (by omega) (y := z.toNat) (by omega)
      have hb2 := run_bound (P := P) hy2 (by omega) h3
      simp only [execOp, ho, ex, Instr.sliceAt, Instr.slice, Instr.sliceBounds, Option.map_none, Option.map_some, underlying, program, Sem.run_bind, Sem.run, hT, Result.andThen_ok, Sem.run_pure, Option.isSome_some, Bool.false_eq_true, if_false, if_true, hb, hb', hb2, run_sizeOf ht, pa]
    · cases hq
  · cases hq
theorem p_slH {K : Act → World → Prop} {k : Nat} (m : Nat) (a : Option Addr) (len cap size : Nat) (h : Int) (hp : pl n ops k m E = pr n ops k m E) (hq : slQ P E (opAt ops k).op = some (a, len, cap, none, some h, none, size)) (h0 : 0 ≤ h) (h1 : h ≤ cap)
    (hk : JK n w0 W K (putE E (opAt ops k) (.slice a h.toNat cap)) L) : JP P n w0 W ops k K E L Q := p_v m hp _ (fun w hm => slH_run hq h0 h1) hk
theorem p_slL {K : Act → World → Prop} {k : Nat} (m : Nat) (a : Option Addr) (len cap size : Nat) (l : Int) (hp : pl n ops k m E = pr n ops k m E) (hq : slQ P E (opAt ops k).op = some (a, len, cap, some l, none, none, size)) (h0 : 0 ≤ l) (h1 : l ≤ len)
    (hk : JK n w0 W K (putE E (opAt ops k) (.slice (pa a l.toNat cap size) (len - l.toNat) (cap - l.toNat))) L) : JP P n w0 W ops k K E L Q := p_v m hp _ (fun w hm => slL_run hq h0 h1) hk
theorem p_slLH {K : Act → World → Prop} {k : Nat} (m : Nat) (a : Option Addr) (len cap size : Nat) (l h : Int) (hp : pl n ops k m E = pr n ops k m E) (hq : slQ P E (opAt ops k).op = some (a, len, cap, some l, some h, none, size)) (h0 : 0 ≤ l) (h1 : l ≤ h) (h2 : h ≤ cap)
    (hk : JK n w0 W K (putE E (opAt ops k) (.slice (pa a l.toNat cap size) (h.toNat - l.toNat) (cap - l.toNat))) L) : JP P n w0 W ops k K E L Q := p_v m hp _ (fun w hm => slLH_run hq h0 h1 h2) hk
theorem p_slM {K : Act → World → Prop} {k : Nat} (m : Nat) (a : Option Addr) (len cap size : Nat) (l h x : Int) (hp : pl n ops k m E = pr n ops k m E) (hq : slQ P E (opAt ops k).op = some (a, len, cap, some l, some h, some x, size)) (h0 : 0 ≤ l) (h1 : l ≤ h) (h2 : h ≤ x) (h3 : x ≤ cap)
    (hk : JK n w0 W K (putE E (opAt ops k) (.slice (pa a l.toNat x.toNat size) (h.toNat - l.toNat) (x.toNat - l.toNat))) L) : JP P n w0 W ops k K E L Q := p_v m hp _ (fun w hm => slM_run hq h0 h1 h2 h3) hk

/-! ### append to the beginning of a row; clear -/
omit dsW in
theorem row_cut {S : Type} {enc : S → List Value} (xs : List S) (i : Nat) (sp : List Value) : row enc xs sp = row enc (xs.take i) ((xs.drop i).flatMap enc ++ sp) := by
  unfold row; rw [← List.append_assoc, ← List.flatMap_append, List.take_append_drop]

theorem p_apI {K : Act → World → Prop} {S : Type} {k : Nat} (m hh : Nat) (o : Option Nat) (el : TypeId) (i sl nn cap size bytes : Nat) (xa : Option Addr) (enc : S → List Value) (xs ys : List S) (sp : List Value) (zv : Value)
    (hi : i ≤ xs.length) (hsl : xs.length = sl) (hnn : ys.length = nn)
    (hp : pl n ops k m E = pr n ops k m E) (hq : apQ P E (opAt ops k).op = some (o.map fun b => ⟨b, 0, none⟩, i, cap, xa, nn, el, size, bytes))
    (hL : L[hh]? = some ⟨o, el, row enc xs sp⟩) (hm : ∀ x, (enc x).length = size) (hc : ∀ x, (enc x).all isCell = true)
    (hsp : o ≠ none → sl ≤ cap ∧ sp.length = (cap - sl) * size) (ho : o = none → xs = [] ∧ cap = 0)
    (hys : ∀ w, Mem w0 W L w → Rw w xa size enc ys) (hbig : i + ys.length ≤ 4294967296) (hz : (P.info? el).bind (·.zero) = some zv)
    (hb : (Nat.ble bytes 4096 && Nat.blt 0 bytes && Nat.blt 0 size && Nat.beq zv.cells.size size) = true)
    (hk : ∀ (o' : Option Nat) (cap' : Nat) (sp' : List Value), (o' ≠ none → (xs.take i ++ ys).length ≤ cap' ∧ sp'.length = (cap' - (xs.take i ++ ys).length) * size) → (o' = none → xs.take i ++ ys = [] ∧ cap' = 0) →
      JK n w0 W K (putE E (opAt ops k) (.slice (o'.map fun b => ⟨b, 0, none⟩) (xs.take i ++ ys).length cap')) (L.set hh ⟨o', el, row enc (xs.take i ++ ys) sp'⟩)) : JP P n w0 W ops k K E L Q := by
  subst hsl hnn
  have hti : (xs.take i).length = i := by rw [List.length_take]; omega
  rw [row_cut xs i sp] at hL
  refine p_ap m hh o el cap ys.length size bytes xa enc (xs.take i) ys ((xs.drop i).flatMap enc ++ sp) zv hp (by rw [hti]; exact hq) hL hm hc ?_ ?_ hys (by rw [hti]; exact hbig) hz hb hk
  · intro e
    obtain ⟨h1, h2⟩ := hsp e
    rw [hti, List.length_append, flatMap_len hm, h2, List.length_drop, ← Nat.add_mul]
    exact ⟨by omega, by congr 1; omega⟩
  · intro e
    obtain ⟨h1, h2⟩ := ho e
    exact ⟨by rw [h1]; simp, h2⟩

/-- append where there is room -/
theorem p_apR {K : Act → World → Prop} {S : Type} {k : Nat} (m hh : Nat) (o : Option Nat) (el : TypeId) (cap size bytes : Nat) (xa : Option Addr) (enc : S → List Value) (xs ys : List S) (sp : List Value)
    (hp : pl n ops k m E = pr n ops k m E) (hq : apQ P E (opAt ops k).op = some (o.map fun b => ⟨b, 0, none⟩, xs.length, cap, xa, ys.length, el, size, bytes))
    (hL : L[hh]? = some ⟨o, el, row enc xs sp⟩) (hm : ∀ x, (enc x).length = size) (hc : ∀ x, (enc x).all isCell = true)
    (hsp : o ≠ none → xs.length ≤ cap ∧ sp.length = (cap - xs.length) * size) (ho : o = none → xs = [] ∧ cap = 0)
    (hys : ∀ w, Mem w0 W L w → Rw w xa size enc ys) (hroom : xs.length + ys.length ≤ cap)
    (hk : JK n w0 W K (putE E (opAt ops k) (.slice (o.map fun b => ⟨b, 0, none⟩) (xs ++ ys).length cap)) (L.set hh ⟨o, el, row enc (xs ++ ys) (sp.drop (ys.length * size))⟩)) : JP P n w0 W ops k K E L Q := by
  have h := pre_ok hp
  intro a w hok
  have hw := gok_wanted hok h.2.1
  unfold wpOp
  simp only [h.1, hw, if_true]
  refine .inl ?_
  unfold Oper.wp
  rw [exec_known hok (G := []) (by simp) h.2.2.2.1 h.2.2.2.2]
  have hrw := hys w hok.mem
  have fc : ∀ {S : Type} {enc : S → List Value} (zs : List S) (za : Option Addr) (c : Nat) (w' : World), w'.heap = w.heap → (∀ x, (enc x).length = size) → Rw w za size enc zs →
      (Builtin.firstCells size zs.length (.slice za zs.length c)).run P w' = .ok (zs.flatMap enc).toArray w' := by
    intro S enc zs za c w' hw' hme hr
    have hr' : Rw w' za size enc zs := by
      constructor
      · intro hne; rw [hw']; exact hr.spot hne
      · intro j x hj i v hv
        have := hr.cell j x hj i v hv
        simpa [World.cell?, hw'] using this
    refine firstCells_run (flatMap_len hme zs) ?_ ?_ (cells_of_rw hme hr') ?_
    · intro hne
      refine (hr.spot ?_).1
      rintro rfl; simp at hne
    · intro hn
      rcases zs with _ | ⟨z, zs⟩
      · rfl
      · have := (hr.spot (by simp)).1; rw [hn] at this; cases this
    · intro he
      have := flatMap_len hme zs
      rw [he] at this
      simpa using this.symm
  cases o with
  | none =>
    obtain ⟨hx0, hc0⟩ := ho rfl
    have hy0 : ys = [] := by
      cases ys with
      | nil => rfl
      | cons y ys => simp only [hc0, List.length_cons] at hroom; omega
    subst hy0
    rw [ap_room hq hroom (xc := 0) (fun c => fc ([] : List S) xa c w rfl hm hrw) (w' := w) rfl]
    have h1 := hk
    have e1 : L.set hh ⟨none, el, row enc (xs ++ []) (sp.drop (([] : List S).length * size))⟩ = L := by rw [List.append_nil, List.length_nil, Nat.zero_mul, List.drop_zero]; exact set_self hL
    rw [e1] at h1
    have := h1 _ w (putE_ok hok h.2.2.1 _)
    rw [Oper.upon_value]
    simpa using this
  | some b =>
    obtain ⟨hs1, hs2⟩ := hsp (by simp)
    have hfl := flatMap_len hm xs
    have hfy := flatMap_len hm ys
    have hmul : (cap - xs.length) * size = (cap - (xs.length + ys.length)) * size + ys.length * size := by
      rw [← Nat.add_mul]; congr 1; omega
    obtain ⟨w', hr, hm'⟩ := storeCells_run (P := P) (ys.flatMap enc) (xs.length * size) 0 (row enc xs sp) L w hok.mem hL (by simp only [row, List.length_append, hfl, hfy, hs2]; omega) (enc_cells hc ys)
    rw [ap_room hq hroom (xc := 0) (fun c => fc ys xa c w rfl hm hrw) (w' := w') (by simpa [addr_add] using hr)]
    have e1 : spl (row enc xs sp) (xs.length * size + 0) (ys.flatMap enc) = row enc (xs ++ ys) (sp.drop (ys.length * size)) := by
      unfold row
      rw [show xs.length * size + 0 = (xs.flatMap enc).length + 0 from by rw [hfl], spl_right, spl_all _ _ (by rw [hfy, hs2]; omega), hfy]
      simp
    rw [e1] at hm'
    have := hk _ w' (putE_ok (hok.mem' hm') h.2.2.1 _)
    rw [Oper.upon_value]
    simpa using this

/-- append to the beginning of a row, where what is appended is no longer than what was behind it -/
theorem p_apN {K : Act → World → Prop} {S : Type} {k : Nat} (m hh : Nat) (o : Option Nat) (el : TypeId) (i sl nn cap size bytes : Nat) (xa : Option Addr) (enc : S → List Value) (xs ys : List S) (sp : List Value)
    (hi : i + ys.length ≤ xs.length) (hsl : xs.length = sl) (hnn : ys.length = nn)
    (hp : pl n ops k m E = pr n ops k m E) (hq : apQ P E (opAt ops k).op = some (o.map fun b => ⟨b, 0, none⟩, i, cap, xa, nn, el, size, bytes))
    (hL : L[hh]? = some ⟨o, el, row enc xs sp⟩) (hm : ∀ x, (enc x).length = size) (hc : ∀ x, (enc x).all isCell = true)
    (hsp : o ≠ none → sl ≤ cap ∧ sp.length = (cap - sl) * size) (ho : o = none → xs = [] ∧ cap = 0)
    (hys : ∀ w, Mem w0 W L w → Rw w xa size enc ys)
    (hk : ∀ sp' : List Value, (o ≠ none → (xs.take i ++ ys).length ≤ cap ∧ sp'.length = (cap - (xs.take i ++ ys).length) * size) → (o = none → xs.take i ++ ys = [] ∧ cap = 0) →
      JK n w0 W K (putE E (opAt ops k) (.slice (o.map fun b => ⟨b, 0, none⟩) (xs.take i ++ ys).length cap)) (L.set hh ⟨o, el, row enc (xs.take i ++ ys) sp'⟩)) : JP P n w0 W ops k K E L Q := by
  subst hsl hnn
  have hti : (xs.take i).length = i := by rw [List.length_take]; omega
  have hcap := cap_le rfl hsp ho
  have hL' := hL
  rw [row_cut xs i sp] at hL'
  have hs2 : o ≠ none → (xs.take i).length ≤ cap ∧ ((xs.drop i).flatMap enc ++ sp).length = (cap - (xs.take i).length) * size := by
    intro e
    obtain ⟨h1, h2⟩ := hsp e
    rw [hti, List.length_append, flatMap_len hm, h2, List.length_drop, ← Nat.add_mul]
    exact ⟨by omega, by congr 1; omega⟩
  have ho2 : o = none → xs.take i = [] ∧ cap = 0 := fun e => ⟨by rw [(ho e).1]; simp, (ho e).2⟩
  refine p_apR m hh o el cap size bytes xa enc (xs.take i) ys ((xs.drop i).flatMap enc ++ sp) hp (by rw [hti]; exact hq) hL' hm hc hs2 ho2 hys (by rw [hti]; omega) (hk _ ?_ ?_)
  · intro e
    obtain ⟨h1, h2⟩ := hs2 e
    rw [List.length_append, List.length_drop, h2, hti, ← Nat.sub_mul]
    exact ⟨by omega, by congr 1; omega⟩
  · intro e
    obtain ⟨h1, h2⟩ := ho e
    subst h1
    simp only [List.length_nil] at hi
    have : ys = [] := List.eq_nil_of_length_eq_zero (by omega)
    exact ⟨by simp [this], h2⟩

def clQ (P : Program) (E : Env) : Op → Option (Option Addr × Nat × List Value × Nat)
  | .call ⟨.builtin .clear, as, ts⟩ => match as[0]?, ts[0]? with
    | some x, some T => match evo E [] x, P.underlying T with
      | some (.slice a n _), some (.slice el) => match P.info? el with
        | some t => t.zero.map fun z => (a, n, z.cells.toList, t.size)
        | none => none
      | _, _ => none
    | _, _ => none
  | _ => none

/-- what is behind a row's elements is cleared -/
theorem p_clr {K : Act → World → Prop} {S : Type} {k : Nat} (m hh : Nat) (o : Option Nat) (T : TypeId) (i sl q cap size : Nat) (z : List Value) (enc : S → List Value) (xs : List S) (sp : List Value)
    (hsl : xs.length = sl) (hi : i = sl) (hp : pl n ops k m E = pr n ops k m E) (hq : clQ P E (opAt ops k).op = some (pa (o.map fun b => ⟨b, 0, none⟩) i cap size, q, z, size))
    (hL : L[hh]? = some ⟨o, T, row enc xs sp⟩) (hm : ∀ x, (enc x).length = size) (hz : (z.all isCell && Nat.beq z.length size) = true)
    (hsp : o ≠ none → sl ≤ cap ∧ sp.length = (cap - sl) * size) (ho : o = none → xs = [] ∧ cap = 0) (hroom : sl + q ≤ cap)
    (hk : ∀ sp' : List Value, sp'.length = sp.length → JK n w0 W K (putE E (opAt ops k) (.tuple #[])) (L.set hh ⟨o, T, row enc xs sp'⟩)) : JP P n w0 W ops k K E L Q := by
  subst hsl hi
  have h := pre_ok hp
  intro ac w hok
  have hw := gok_wanted hok h.2.1
  unfold wpOp
  simp only [h.1, hw, if_true]
  refine .inl ?_
  unfold Oper.wp
  rw [exec_known hok (G := []) (by simp) h.2.2.2.1 h.2.2.2.2]
  simp only [Bool.and_eq_true] at hz
  have hz2 := Nat.eq_of_beq_eq_true hz.2
  have hsame : L.set hh ⟨o, T, row enc xs sp⟩ = L := set_self hL
  unfold clQ at hq
  split at hq
  · rename_i as ts hop
    split at hq
    · rename_i x T' has hts
      split at hq
      · rename_i a' n' cap' el hx hT
        split at hq
        · rename_i t ht
          simp only [Option.map_eq_some_iff, Prod.mk.injEq] at hq
          obtain ⟨zv, hzv, ha, rfl, rfl, rfl⟩ := hq
          subst ha
          have ex : ev E [] x = .slice (pa (o.map fun b => ⟨b, 0, none⟩) xs.length cap t.size) n' cap' := by simp [ev, hx]
          have h1 : (as.map (ev E []))[0]? = some (.slice (pa (o.map fun b => ⟨b, 0, none⟩) xs.length cap t.size) n' cap') := by simp [has, ex]
          have hti : ∀ w : World, (typeInfo el).run P w = .ok t w := by intro w; simp [typeInfo, program, Sem.run, ht]
          have hzr : ∀ w : World, (zeroValue el).run P w = .ok zv w := by intro w; simp [zeroValue, hti, hzv]
          by_cases hq0 : n' = 0
          · subst hq0
            have hr : (execOp (ev E []) (opAt ops k)).run P w = .ok (.value (.tuple #[])) w := by
              cases hpa : pa (o.map fun b => (⟨b, 0, none⟩ : Addr)) xs.length cap t.size <;>
              · rw [hpa] at h1
                simp [execOp, hop, resolve, invoke, builtin, Builtin.clear_, h1, hts, underlying, program, Sem.run, hT]
            rw [hr, Oper.upon_value]
            have h2 := hk sp rfl
            rw [hsame] at h2
            exact h2 _ w (putE_ok hok h.2.2.1 _)
          · cases o with
            | none => have := (ho rfl).2; omega
            | some b =>
              obtain ⟨hs1, hs2⟩ := hsp (by simp)
              have hpa : pa ((some b).map fun b => (⟨b, 0, none⟩ : Addr)) xs.length cap t.size = some ⟨b, xs.length * t.size, none⟩ := by
                unfold pa
                rw [if_neg (by omega)]
                simp [addr_add]
              have hzl : (Builtin.zeroCells zv.cells n').toList.length = n' * t.size := by
                have : zv.cells.size = t.size := by simpa using hz2
                simp [Builtin.zeroCells, this]
              have hzc : ∀ v ∈ (Builtin.zeroCells zv.cells n').toList, isCell v = true := by
                intro v hv
                simp only [Builtin.zeroCells, Array.toList_map, List.mem_map, Array.toList_range, List.mem_range] at hv
                obtain ⟨j, hj, rfl⟩ := hv
                have hs : 0 < zv.cells.size := by
                  rcases Nat.eq_zero_or_pos zv.cells.size with h0 | h0
                  · rw [h0] at hj; simp at hj
                  · exact h0
                have hlt := Nat.mod_lt j hs
                rw [getElem!_pos zv.cells _ hlt]
                exact List.all_eq_true.1 hz.1 _ (by simp)
              have hmul : (cap - xs.length) * t.size = (cap - (xs.length + n')) * t.size + n' * t.size := by
                rw [← Nat.add_mul]; congr 1; omega
              have hfl := flatMap_len hm xs
              obtain ⟨w', hr, hm'⟩ := storeCells_run (P := P) (Builtin.zeroCells zv.cells n').toList (xs.length * t.size) 0 (row enc xs sp) L w hok.mem hL (by simp only [row, List.length_append, hfl, hzl, hs2]; omega) hzc
              rw [hpa] at h1
              have hrun : (execOp (ev E []) (opAt ops k)).run P w = .ok (.value (.tuple #[])) w' := by
                obtain ⟨n', rfl⟩ : ∃ j, n' = j + 1 := ⟨n' - 1, by omega⟩
                simp [execOp, hop, resolve, invoke, builtin, Builtin.clear_, h1, hts, underlying, program, Sem.run, hT, hzr, hr]
              rw [hrun, Oper.upon_value]
              have e1 : spl (row enc xs sp) (xs.length * t.size + 0) (Builtin.zeroCells zv.cells n').toList = row enc xs (spl sp 0 (Builtin.zeroCells zv.cells n').toList) := by
                unfold row
                rw [show xs.length * t.size + 0 = (xs.flatMap enc).length + 0 from by rw [hfl], spl_right]
              rw [e1] at hm'
              exact hk _ (spl_len _ _ _) _ w' (putE_ok (hok.mem' hm') h.2.2.1 _)
        · cases hq
      · cases hq
    · cases hq
  · cases hq

omit dsW in
theorem spo_gen {S : Type} {o : Option Nat} {xs ys : List S} {l cap m c : Nat} {j : Int} {x : S} (ho : o = none → xs = [] ∧ c = 0) (hy : xs = [] → ys = []) (hx : ix ys j = some x) :
    pa (o.map fun b => (⟨b, 0, none⟩ : Addr)) l cap m = some ⟨aB (pa (o.map fun b => ⟨b, 0, none⟩) l cap m), aO (pa (o.map fun b => ⟨b, 0, none⟩) l cap m), none⟩ := by
  cases o with
  | none =>
    have := hy (ho rfl).1
    subst this
    have := (ix_some hx).2.2
    simp at this
  | some b =>
    unfold pa
    split
    · rfl
    · simp only [Option.map_some, addr_add]; rfl
omit dsW in
theorem spo_hd {S : Type} {o : Option Nat} {xs : List S} {k c : Nat} {j : Int} {x : S} (ho : o = none → xs = [] ∧ c = 0) (hx : ix (xs.take k) j = some x) :
    (o.map fun b => (⟨b, 0, none⟩ : Addr)) = some ⟨aB (o.map fun b => ⟨b, 0, none⟩), aO (o.map fun b => ⟨b, 0, none⟩), none⟩ :=
  spo (xs := xs.take k) (cap := 0) (fun e => ⟨by rw [(ho e).1]; simp, rfl⟩) hx
omit dsW in
theorem spo_tl {S : Type} {o : Option Nat} {xs : List S} {l cap m c : Nat} {j : Int} {x : S} (ho : o = none → xs = [] ∧ c = 0) (hx : ix (xs.drop l) j = some x) :
    pa (o.map fun b => (⟨b, 0, none⟩ : Addr)) l cap m = some ⟨aB (pa (o.map fun b => ⟨b, 0, none⟩) l cap m), aO (pa (o.map fun b => ⟨b, 0, none⟩) l cap m), none⟩ :=
  spo_gen ho (fun e => by rw [e]; simp) hx
omit dsW in
theorem spo_pt {S : Type} {o : Option Nat} {xs : List S} {l k cap m c : Nat} {j : Int} {x : S} (ho : o = none → xs = [] ∧ c = 0) (hx : ix ((xs.drop l).take k) j = some x) :
    pa (o.map fun b => (⟨b, 0, none⟩ : Addr)) l cap m = some ⟨aB (pa (o.map fun b => ⟨b, 0, none⟩) l cap m), aO (pa (o.map fun b => ⟨b, 0, none⟩) l cap m), none⟩ :=
  spo_gen ho (fun e => by rw [e]; simp) hx

omit dsW in
theorem apn_le {S : Type} {xs ys : List S} {i : Nat} (h : i + ys.length ≤ xs.length) : (xs.take i ++ ys).length ≤ xs.length := by
  rw [List.length_append, List.length_take]; omega

/-- a row is seen as its first elements and what is behind them -/
theorem jx_cut {S : Type} {e : Exit} {hh : Nat} {o : Option Nat} {T : TypeId} {enc : S → List Value} {xs : List S} {sp : List Value} (k : Nat) (hL : L[hh]? = some ⟨o, T, row enc xs sp⟩)
    (h : JX n w0 W e E (L.set hh ⟨o, T, row enc (xs.take k) ((xs.drop k).flatMap enc ++ sp)⟩) Q) : JX n w0 W e E L Q := by
  rw [← row_cut, set_self hL] at h
  exact h
theorem jo_cut {S : Type} {k : Nat} {hh : Nat} {o : Option Nat} {T : TypeId} {enc : S → List Value} {xs : List S} {sp : List Value} (i : Nat) (hL : L[hh]? = some ⟨o, T, row enc xs sp⟩)
    (h : JO P n w0 W ops k E (L.set hh ⟨o, T, row enc (xs.take i) ((xs.drop i).flatMap enc ++ sp)⟩) Q) : JO P n w0 W ops k E L Q := by
  rw [← row_cut, set_self hL] at h
  exact h
theorem jp_cut {S : Type} {K : Act → World → Prop} {k : Nat} {hh : Nat} {o : Option Nat} {T : TypeId} {enc : S → List Value} {xs : List S} {sp : List Value} (i : Nat) (hL : L[hh]? = some ⟨o, T, row enc xs sp⟩)
    (h : JP P n w0 W ops k K E (L.set hh ⟨o, T, row enc (xs.take i) ((xs.drop i).flatMap enc ++ sp)⟩) Q) : JP P n w0 W ops k K E L Q := by
  rw [← row_cut, set_self hL] at h
  exact h
omit dsW in
theorem cut_hs {S : Type} {enc : S → List Value} {m : Nat} (hm : ∀ x, (enc x).length = m) {o : Option Nat} {xs : List S} {n cap i : Nat} {sp : List Value} (hi : i ≤ xs.length) (hn : xs.length = n)
    (hs : o ≠ none → n ≤ cap ∧ sp.length = (cap - n) * m) : o ≠ none → i ≤ cap ∧ ((xs.drop i).flatMap enc ++ sp).length = (cap - i) * m := by
  intro e
  obtain ⟨h1, h2⟩ := hs e
  rw [List.length_append, flatMap_len hm, h2, List.length_drop, ← Nat.add_mul]
  exact ⟨by omega, by congr 1; omega⟩
omit dsW in
theorem cut_ho {S : Type} {o : Option Nat} {xs : List S} {c : Nat} (i : Nat) (h : o = none → xs = [] ∧ c = 0) : o = none → xs.take i = [] ∧ c = 0 :=
  fun e => ⟨by rw [(h e).1]; simp, (h e).2⟩
theorem jp_ghost {S : Type} {K : Act → World → Prop} {k : Nat} (T : TypeId) (enc : S → List Value) (h : JP P n w0 W ops k K E (L ++ [⟨none, T, row enc [] []⟩]) Q) : JP P n w0 W ops k K E L Q :=
  fun a w hok => h a w (hok.mem' (hok.mem.ghost T _))
omit dsW in
theorem nil_of {S : Type} {w : World} {a : Option Addr} {m : Nat} {enc : S → List Value} {xs : List S} (h : Rw w a m enc xs) (ha : a = none) : xs = [] := by
  by_cases hx : xs = []
  · exact hx
  · have := (h.spot hx).1
    rw [ha] at this
    cases this

/-! ### arrays that are elements of rows -/
omit dsW in
theorem at_arr {S : Type} {enc : S → List Value} {m N : Nat} (hm : ∀ x, (enc x).length = m) {w : World} {b off : Nat} {a : Arr N S} (h : At w b off (row enc a.1 [])) {j : Int} {y : S} (hx : ix a.1 j = some y) :
    At w b (off + j.toNat * m) (enc y) := by
  intro i v hv
  have h1 := flatMap_get hm a.1 j.toNat y (ix_some hx).2.2 i v hv
  have := h (j.toNat * m + i) v (by simpa [row] using h1)
  rwa [← Nat.add_assoc] at this

omit dsW in
theorem eqArr_loop {P : Program} (d : Nat) (el : TypeId) (kk : IntKind) (he : P.underlying el = some (.int kk)) (ha : ∀ w, (isAgg el).run P w = .ok false w) (a b : List Int) (enc : Int → List Value) (henc : ∀ x, enc x = [.int kk x]) :
    ∀ (m s : Nat) (w : World), s + m = a.length → s + m = b.length →
    (forIn (List.range' s m 1) ((none, ()) : Option Bool × Unit) (fun i _ => do
      let x ← part el (row enc a []).toArray (i * 1)
      let y ← part el (row enc b []).toArray (i * 1)
      let r ← Op.equalIn (d + 1) el x y
      if (!r) = true then pure (ForInStep.done (some false, ())) else pure (ForInStep.yield (none, ()))) : Sem (Option Bool × Unit)).run P w = .ok (if a.drop s == b.drop s then (none, ()) else (some false, ())) w := by
  have hrow : ∀ (l : List Int) (i : Nat) (h : i < l.length), (row enc l []).toArray[i * 1]? = some (.int kk l[i]) := by
    intro l i h
    have := flatMap_get (enc := enc) (m := 1) (fun x => by rw [henc]; rfl) l i l[i] (List.getElem?_eq_getElem h) 0 (.int kk l[i]) (by rw [henc]; rfl)
    unfold row
    rw [List.append_nil, List.getElem?_toArray]
    simpa using this
  intro m
  induction m with
  | zero =>
    intro s w h1 h2
    rw [List.drop_of_length_le (by omega), List.drop_of_length_le (by omega)]
    simp
  | succ m ih =>
    intro s w h1 h2
    have hs1 : s < a.length := by omega
    have hs2 : s < b.length := by omega
    have p1 : (part el (row enc a []).toArray (s * 1)).run P w = .ok (.int kk a[s]) w := by
      simp only [part, Sem.run_bind, ha, Result.andThen_ok, Bool.false_eq_true, if_false, hrow a s hs1, Sem.run_pure]
    have p2 : (part el (row enc b []).toArray (s * 1)).run P w = .ok (.int kk b[s]) w := by
      simp only [part, Sem.run_bind, ha, Result.andThen_ok, Bool.false_eq_true, if_false, hrow b s hs2, Sem.run_pure]
    have p3 : (Op.equalIn (d + 1) el (.int kk a[s]) (.int kk b[s])).run P w = .ok (a[s] == b[s]) w := run_equalIn_int w d el kk kk _ _ he
    rw [List.range'_succ, List.forIn_cons]
    simp only [Sem.run_bind, p1, p2, p3, Result.andThen_ok]
    rw [List.drop_eq_getElem_cons hs1, List.drop_eq_getElem_cons hs2]
    by_cases e : a[s] = b[s]
    · have e2 : (a[s] == b[s]) = true := by simpa using e
      simp only [e2, Bool.not_true, Bool.false_eq_true, if_false, Sem.run_pure, Result.andThen_ok]
      rw [ih (s + 1) w (by omega) (by omega)]
      congr 1
      rw [List.cons_beq_cons, e2, Bool.true_and]
    · have e2 : (a[s] == b[s]) = false := by simpa using e
      simp only [e2, Bool.not_false, if_true, Sem.run_pure, Result.andThen_ok]
      congr 1
      rw [List.cons_beq_cons, e2, Bool.false_and]
      rfl
omit dsW in
theorem run_equalIn_arr {P : Program} (d : Nat) (t el : TypeId) (N : Nat) (kk : IntKind) (ht : P.underlying t = some (.array N el)) (he : P.underlying el = some (.int kk)) (hs : ∀ w, (sizeOf el).run P w = .ok 1 w) (ha : ∀ w, (isAgg el).run P w = .ok false w) (a b : Arr N Int) (enc : Int → List Value) (henc : ∀ x, enc x = [.int kk x]) (w : World) :
    (Op.equalIn (d + 2) t (.agg (row enc a.1 []).toArray) (.agg (row enc b.1 []).toArray)).run P w = .ok (a.1 == b.1) w := by
  rw [Op.equalIn]
  simp only [Sem.run_bind, run_underlying ht, Result.andThen_ok, hs]
  have := eqArr_loop d el kk he ha a.1 b.1 enc henc N 0 w (by rw [a.2]; omega) (by rw [b.2]; omega)
  simp only [List.drop_zero] at this
  rw [Std.Legacy.Range.forIn_eq_forIn_range']
  simp only [Std.Legacy.Range.size, Nat.sub_zero, Nat.add_sub_cancel, Nat.div_one]
  rw [this]
  cases (a.1 == b.1) <;> simp
def eqaQ (P : Program) (E : Env) : Op → Option (Bool × TypeId × Array Value × Array Value)
  | .binOp .eql t x y _ => match evo E [] x, evo E [] y with
    | some (.agg xs), some (.agg ys) => bif P.eqGuardType P.depth t then none else some (false, t, xs, ys)
    | _, _ => none
  | .binOp .neq t x y _ => match evo E [] x, evo E [] y with
    | some (.agg xs), some (.agg ys) => bif P.eqGuardType P.depth t then none else some (true, t, xs, ys)
    | _, _ => none
  | _ => none
/-- two arrays of numbers, whether they are one -/
theorem p_eqA {K : Act → World → Prop} {k : Nat} (m : Nat) (ng : Bool) (t el : TypeId) (N : Nat) (kk : IntKind) (enc : Int → List Value) (a b : Arr N Int) (hp : pl n ops k m E = pr n ops k m E)
    (hq : eqaQ P E (opAt ops k).op = some (ng, t, (row enc a.1 []).toArray, (row enc b.1 []).toArray)) (ht : P.underlying t = some (.array N el)) (he : P.underlying el = some (.int kk)) (hs : ∀ w, (sizeOf el).run P w = .ok 1 w) (ha : ∀ w, (isAgg el).run P w = .ok false w) (henc : ∀ x, enc x = [.int kk x])
    (v : Bool) (hv : (if ng = true then !(a.1 == b.1) else a.1 == b.1) = v)
    (hk : JK n w0 W K (putE E (opAt ops k) (.bool v)) L) : JP P n w0 W ops k K E L Q :=
  p_v m hp _ (fun w hm => by
    subst hv
    have hr := run_equalIn_arr 9998 t el N kk ht he hs ha a b enc henc w
    unfold eqaQ at hq
    split at hq
    · rename_i T x y yt ho
      split at hq
      · rename_i xs ys hx hy
        cases hg : P.eqGuardType P.depth T with
        | true => rw [hg] at hq; simp at hq
        | false =>
          rw [hg] at hq
          simp only [cond_false, Option.some.injEq, Prod.mk.injEq] at hq
          obtain ⟨rfl, rfl, rfl, rfl⟩ := hq
          have ex : ev E [] x = .agg (row enc a.1 []).toArray := by simp [ev, hx]
          have ey : ev E [] y = .agg (row enc b.1 []).toArray := by simp [ev, hy]
          simp only [execOp, ho, ex, ey, Sem.run_bind, run_eqGuard_agg (P := P) w .eql T x y _ _ hg, Result.andThen_ok, run_eql_struct (P := P) w T _ _, hr]
          rfl
      · cases hq
    · rename_i T x y yt ho
      split at hq
      · rename_i xs ys hx hy
        cases hg : P.eqGuardType P.depth T with
        | true => rw [hg] at hq; simp at hq
        | false =>
          rw [hg] at hq
          simp only [cond_false, Option.some.injEq, Prod.mk.injEq] at hq
          obtain ⟨rfl, rfl, rfl, rfl⟩ := hq
          have ex : ev E [] x = .agg (row enc a.1 []).toArray := by simp [ev, hx]
          have ey : ev E [] y = .agg (row enc b.1 []).toArray := by simp [ev, hy]
          simp only [execOp, ho, ex, ey, Sem.run_bind, run_eqGuard_agg (P := P) w .neq T x y _ _ hg, Result.andThen_ok, run_neq_struct (P := P) w T _ _, hr]
          rfl
      · cases hq
    · cases hq) hk
/-- a whole element of a row, its cells not told one by one -/
theorem p_strW {K : Act → World → Prop} {S : Type} {k : Nat} (m hh b : Nat) (T : TypeId) (enc : S → List Value) (xs : List S) (sp : List Value) (j : Int) (y : S) (size : Nat) {x : S}
    (hp : pl n ops k m E = pr n ops k m E) (hq : stQ P E (opAt ops k).op = some (b, 0 + j.toNat * size + 0, enc y)) (hL : L[hh]? = some ⟨some b, T, row enc xs sp⟩) (hm : ∀ x, (enc x).length = size)
    (hx : ix xs j = some x)
    (hk : JK n w0 W K (putE E (opAt ops k) undef) (L.set hh ⟨some b, T, row enc (xs.set j.toNat y) sp⟩)) : JP P n w0 W ops k K E L Q :=
  p_str m hh b T enc xs sp j y size 0 (enc y) hp hq hL hm hx (by rw [Nat.zero_add, hm]; exact Nat.ble_eq_true_of_le (Nat.le_refl _))
    (by rw [spl_all _ _ (by rw [hm, hm]; exact Nat.le_refl _), List.drop_of_length_le (by rw [hm, hm]; exact Nat.le_refl _), List.append_nil]) hk

/-- a store into an element of an array that is an element of a row -/
theorem p_strA {K : Act → World → Prop} {S : Type} {N : Nat} {k : Nat} (m hh : Nat) (o : Option Nat) (T : TypeId) (enc : Arr N S → List Value) (e2 : S → List Value) (xs : List (Arr N S)) (sp : List Value) (j j2 : Int) (y : S) (size m2 : Nat) (vs : List Value)
    {x : Arr N S} {y0 : S} (hp : pl n ops k m E = pr n ops k m E)
    (hq : stQ P E (opAt ops k).op = some (aB (o.map fun b => ⟨b, 0, none⟩), aO (o.map fun b => ⟨b, 0, none⟩) + j.toNat * size + j2.toNat * m2, vs)) (hL : L[hh]? = some ⟨o, T, row enc xs sp⟩) (ho : o = none → xs = []) (hm : ∀ x, (enc x).length = size)
    (hm2 : ∀ x, (e2 x).length = m2) (hx : ix xs j = some x) (hx2 : ix x.1 j2 = some y0) (he : enc = fun x => row e2 x.1 []) (hv : vs = e2 y)
    (hk : JK n w0 W K (putE E (opAt ops k) undef) (L.set hh ⟨o, T, row enc (xs.set j.toNat (x.set j2 y)) sp⟩)) : JP P n w0 W ops k K E L Q := by
  cases o with
  | none => rw [ho rfl] at hx; simp [ix] at hx
  | some b =>
  subst hv
  have hi := (ix_some hx).2.2
  have hi2 := (ix_some hx2).2.2
  have hlt : j.toNat < xs.length := by
    rcases Nat.lt_or_ge j.toNat xs.length with h' | h'
    · exact h'
    · simp [List.getElem?_eq_none h'] at hi
  have hlt2 : j2.toNat < x.1.length := by
    rcases Nat.lt_or_ge j2.toNat x.1.length with h' | h'
    · exact h'
    · simp [List.getElem?_eq_none h'] at hi2
  have hsz : size = N * m2 := by
    have h1 := hm x
    rw [he] at h1
    rw [← h1, row_len hm2]
  have hb : j2.toNat * m2 + m2 ≤ size := by
    rw [hsz, ← x.2]
    have : (j2.toNat + 1) * m2 ≤ x.1.length * m2 := Nat.mul_le_mul_right _ hlt2
    rwa [Nat.succ_mul] at this
  have hin : spl (enc x) (j2.toNat * m2) (e2 y) = enc (x.set j2 y) := by
    subst he
    have := spl_row (sp := []) (f := 0) (vs := e2 y) (y := y) hm2 hi2 (by rw [hm2]; omega) (by
      rw [spl_all _ _ (by rw [hm2, hm2]; exact Nat.le_refl _)]
      simp [hm2])
    simpa [Arr.set] using this
  have hq' : stQ P E (opAt ops k).op = some (b, j.toNat * size + j2.toNat * m2, e2 y) := by
    rw [hq]
    simp [aB, aO]
  refine p_st m hh b _ (e2 y) T _ _ hp hq' hL ?_ ?_ hk
  · simp only [row, List.length_append, flatMap_len hm, hm2]
    have : (j.toNat + 1) * size ≤ xs.length * size := Nat.mul_le_mul_right _ hlt
    rw [Nat.succ_mul] at this
    omega
  · exact spl_row hm hi (by rw [hm2]; exact hb) hin
end rules2

section rules3
variable {P : Program} {n : Nat} {w0 : World} {W : List Nat} {Q : Exit → Act → World → Prop} {E : Env} {L : List Blk} {ops : Array Oper}
/-! ### rows of rows -/
/-- what stands for a row within a row -/
structure Hd where
  a : Option Addr
  n : Nat
  c : Nat
def encHd (h : Hd) : List Value := [.slice h.a h.n h.c]
omit dsW in
theorem encHd_len (h : Hd) : (encHd h).length = 1 := rfl
omit dsW in
theorem encHd_cell (h : Hd) : (encHd h).all isCell = true := rfl
def hd (hs : List Hd) (j : Int) : Hd := (hs[j.toNat]?).getD ⟨none, 0, 0⟩
def Inn {S : Type} (w : World) (B : List Nat) (m : Nat) (enc : S → List Value) (hs : List Hd) (xss : List (List S)) : Prop :=
  ∀ (i : Nat) (xs : List S), xss[i]? = some xs → ∃ h, hs[i]? = some h ∧ Rw w h.a m enc xs ∧ xs.length = h.n ∧ (xs ≠ [] → aB h.a ∉ B)
omit dsW in
theorem Inn.ixh {S : Type} {w : World} {B : List Nat} {m : Nat} {enc : S → List Value} {hs : List Hd} {xss : List (List S)} {j : Int} {x : List S} (h : Inn w B m enc hs xss) (hx : ix xss j = some x) : ix hs j = some (hd hs j) := by
  obtain ⟨h0, h1, h2⟩ := ix_some hx
  obtain ⟨y, hy, _⟩ := h _ _ h2
  unfold ix
  rw [if_pos h0, hy]
  simp [hd, hy]
omit dsW in
theorem Inn.get {S : Type} {w : World} {B : List Nat} {m : Nat} {enc : S → List Value} {hs : List Hd} {xss : List (List S)} {j : Int} {x : List S} (h : Inn w B m enc hs xss) (hx : ix xss j = some x) :
    Rw w (hd hs j).a m enc x ∧ x.length = (hd hs j).n ∧ (x ≠ [] → aB (hd hs j).a ∉ B) := by
  obtain ⟨h0, h1, h2⟩ := ix_some hx
  obtain ⟨y, hy, h3⟩ := h _ _ h2
  simpa [hd, hy] using h3
omit dsW in
theorem Inn.nil {S : Type} {w : World} {B : List Nat} {m : Nat} {enc : S → List Value} : Inn w B m enc [] ([] : List (List S)) := by intro i xs h; simp at h
omit dsW in
theorem Inn.cons {S : Type} {w : World} {B : List Nat} {m : Nat} {enc : S → List Value} {hs : List Hd} {xss : List (List S)} {h : Hd} {x : List S} (h1 : Rw w h.a m enc x) (h2 : x.length = h.n) (h3 : x ≠ [] → aB h.a ∉ B) (h4 : Inn w B m enc hs xss) :
    Inn w B m enc (h :: hs) (x :: xss) := by
  intro i xs hi
  cases i with
  | zero => simp at hi; subst hi; exact ⟨h, rfl, h1, h2, h3⟩
  | succ i => simpa using h4 i xs (by simpa using hi)
theorem Mem.innPass {S : Type} {w : World} (h : Mem w0 W L w) {m : Nat} {enc : S → List Value} {hs : List Hd} {xss : List (List S)} (hi : Inn w0 W m enc hs xss) (l : List Nat) {N : List Blk} (hN : at_ L l = N) :
    Inn w (bs (N.map Blk.b)) m enc hs xss := by
  intro i xs hx
  obtain ⟨y, hy, h1, h2, h3⟩ := hi i xs hx
  exact ⟨y, hy, h.exRowW h1 h3, h2, h.exApart h1 h3 l hN⟩
end rules3

end Go.Proofs.YtplklknkkaeniaaGreatDoor.Eng
