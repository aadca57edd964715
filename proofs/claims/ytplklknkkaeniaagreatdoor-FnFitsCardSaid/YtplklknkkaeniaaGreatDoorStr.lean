/- Strings in the engine's words: joining, a byte at a place, a part. -/
import Derived.Test.YtplklknkkaeniaaGreatDoorEng
namespace Go.Proofs.YtplklknkkaeniaaGreatDoor.Eng
open Go
set_option linter.unusedSimpArgs false
set_option linter.unusedVariables false
variable {P : Program} {E : Env}

/-- the byte at a place -/
def sIx (s : ByteArray) (i : Int) : Option Int := if 0 ≤ i then (s[i.toNat]?).map fun b => (b.toNat : Int) else none
theorem sIx_some {s : ByteArray} {i x : Int} (h : sIx s i = some x) : 0 ≤ i ∧ i < s.size ∧ ∃ b : UInt8, s[i.toNat]? = some b ∧ x = (b.toNat : Int) := by
  unfold sIx at h
  split at h
  · rename_i h0
    rw [Option.map_eq_some_iff] at h
    obtain ⟨b, hb, rfl⟩ := h
    have hl : i.toNat < s.size := by
      rcases Nat.lt_or_ge i.toNat s.size with h' | h'
      · exact h'
      · rw [getElem?_neg s i.toNat (by omega)] at hb; cases hb
    exact ⟨h0, by omega, b, hb, rfl⟩
  · cases h

def catQ (E : Env) : Op → Option (ByteArray × ByteArray)
  | .binOp .add _ x y _ => match evo E [] x, evo E [] y with
    | some (.string a), some (.string b) => some (a, b)
    | _, _ => none
  | _ => none
theorem cat_run {o : Oper} {a b : ByteArray} {w : World} (hq : catQ E o.op = some (a, b)) (hg : a.size + b.size ≤ 9223372036854775807) : (execOp (ev E []) o).run P w = .ok (.value (.string (a ++ b))) w := by
  unfold catQ at hq
  split at hq
  · rename_i T x y yT ho
    split at hq
    · rename_i a' b' hx hy
      cases hq
      have ex : ev E [] x = .string a := by simp [ev, hx]
      have ey : ev E [] y = .string b := by simp [ev, hy]
      have hn : ¬ (((a.size + b.size : Nat) : Int) > IntKind.i64.max) := by
        have : IntKind.i64.max = 9223372036854775807 := by decide
        omega
      simp only [execOp, ho, ex, ey, eqGuard, binOp, Op.stringOp, if_neg hn]
      simp
    · cases hq
  · cases hq

def sixQ (P : Program) (E : Env) : Op → Option (ByteArray × Int)
  | .index T x i => match evo E [] x, evo E [] i, P.underlying T with
    | some (.string s), some (.int _ j), some .string => some (s, j)
    | _, _, _ => none
  | _ => none
theorem six_run {o : Oper} {s : ByteArray} {j x : Int} {w : World} (hq : sixQ P E o.op = some (s, j)) (hx : sIx s j = some x) : (execOp (ev E []) o).run P w = .ok (.value (.int .u8 x)) w := by
  obtain ⟨h0, h1, b, hb, rfl⟩ := sIx_some hx
  unfold sixQ at hq
  split at hq
  · rename_i T y i ho
    split at hq
    · rename_i s' k j' hy hi hT
      cases hq
      have ey : ev E [] y = .string s := by simp [ev, hy]
      have ei : ev E [] i = .int k j := by simp [ev, hi]
      simp only [execOp, ho, Instr.index, ey, ei, asIntOf, underlying, program, Sem.run_bind, Sem.run, hT, Result.andThen_ok, Sem.run_pure, if_pos h0, hb]
    · cases hq
  · cases hq

def sslQ (P : Program) (E : Env) : Op → Option (ByteArray × Option Int × Option Int)
  | .slice T x lo hi none => match evo E [] x, P.underlying T, oI E lo, oI E hi with
    | some (.string s), some .string, some lo', some hi' => some (s, lo', hi')
    | _, _, _, _ => none
  | _ => none
theorem ssl_run {o : Oper} {s : ByteArray} {lo hi : Option Int} {l h : Int} {w : World} (hq : sslQ P E o.op = some (s, lo, hi)) (hl : lo.getD 0 = l) (hh : hi.getD s.size = h) (hg : 0 ≤ l ∧ l ≤ h ∧ h ≤ s.size) :
    (execOp (ev E []) o).run P w = .ok (.value (.string (s.extract l.toNat h.toNat))) w := by
  unfold sslQ at hq
  split at hq
  · rename_i T x lo' hi' ho
    split at hq
    · rename_i s' l1 h1 hx hT hlo hhi
      cases hq
      have ex : ev E [] x = .string s := by simp [ev, hx]
      have bl : ∀ (y : Nat) (c : BoundsCode), l ≤ y → ∀ v k, v = Value.int k l → (Instr.sliceBound v y c).run P w = .ok l.toNat w := fun y c hy v k hv => run_bound (P := P) hv hg.1 hy c w
      have h0 : 0 ≤ h := by omega
      cases lo with
      | none =>
        obtain rfl := oI_none hlo
        simp only [Option.getD_none] at hl
        subst hl
        cases hi with
        | none =>
          obtain rfl := oI_none hhi
          simp only [Option.getD_none] at hh
          subst hh
          simp [execOp, ho, ex, Instr.sliceAt, Instr.slice, Instr.sliceBounds, underlying, program, Sem.run_bind, Sem.run, hT]
        | some hv =>
          obtain ⟨y, k, rfl, hy⟩ := oI_some hhi
          simp only [Option.getD_some] at hh
          subst hh
          have hb := run_bound (P := P) hy h0 hg.2.2
          simp only [execOp, ho, ex, Instr.sliceAt, Instr.slice, Instr.sliceBounds, Option.map_none, Option.map_some, underlying, program, Sem.run_bind, Sem.run, hT, Result.andThen_ok, Sem.run_pure, Option.isSome_none, Bool.false_eq_true, if_false, if_true, hb]
          simp
      | some lv =>
        obtain ⟨z, kz, rfl, hz⟩ := oI_some hlo
        simp only [Option.getD_some] at hl
        subst hl
        cases hi with
        | none =>
          obtain rfl := oI_none hhi
          simp only [Option.getD_none] at hh
          subst hh
          have hb2 := run_bound (P := P) hz hg.1 (show lv ≤ ((s.size : Nat) : Int) from hg.2.1)
          simp only [execOp, ho, ex, Instr.sliceAt, Instr.slice, Instr.sliceBounds, Option.map_none, Option.map_some, underlying, program, Sem.run_bind, Sem.run, hT, Result.andThen_ok, Sem.run_pure, Option.isSome_none, Bool.false_eq_true, if_false, if_true, hb2]
          simp
        | some hv =>
          obtain ⟨y, k, rfl, hy⟩ := oI_some hhi
          simp only [Option.getD_some] at hh
          subst hh
          have hb := run_bound (P := P) hy h0 hg.2.2
          have hb2 := run_bound (P := P) hz hg.1 (show lv ≤ ((hv.toNat : Nat) : Int) by omega)
          simp only [execOp, ho, ex, Instr.sliceAt, Instr.slice, Instr.sliceBounds, Option.map_none, Option.map_some, underlying, program, Sem.run_bind, Sem.run, hT, Result.andThen_ok, Sem.run_pure, Option.isSome_none, Bool.false_eq_true, if_false, if_true, hb, hb2]
    · cases hq
  · cases hq
end Go.Proofs.YtplklknkkaeniaaGreatDoor.Eng
