/- strings.Builder in the engine's words: a box and the row of bytes it holds. -/
import Derived.Test.YtplklknkkaeniaaDoorEng
import Derived.Test.YtplklknkkaeniaaDoorStr
import Derived.Test.YtplklknkkaeniaaDoorShelf
import Derived.Shelf.Strings.Builder1
import Derived.Shelf.Strings.BuilderK
import Derived.BigCall
import Derived.BigGuard
namespace Go.Proofs.YtplklknkkaeniaaDoor.Eng
open Go Go.Shelf Go.RowKit Go.Lib Go.Sort Go.Proofs
set_option linter.unusedSimpArgs false
set_option linter.unusedVariables false
set_option linter.unusedSectionVars false
variable [dsW : DrwS] {P : Program} {ρ : Ren} {w0 : World} {Lb : List Blk}
/-- what a builder's first cell holds: nothing, or its own address -/
def bp (q : Bool) (b : Nat) : Value := .pointer (if q then some ⟨b, 0, none⟩ else none)
/-- a text's bytes as numbers -/
def bytesI (s : ByteArray) : List Int := s.data.toList.map fun b => ((b.toNat : Nat) : Int)
/-- the text of numbers that are bytes -/
def textI (xs : List Int) : ByteArray := ⟨(xs.map fun n => UInt8.ofNat n.toNat).toArray⟩
def strF (xs : List Int) : Option ByteArray := if bytesI (textI xs) = xs then some (textI xs) else none
theorem bytesI_len (s : ByteArray) : (bytesI s).length = s.size := by simp [bytesI]
theorem bytesI_row {enc : Int → List Value} (he : ∀ x, enc x = [.int .u8 x]) (s : ByteArray) : (bytesI s).flatMap enc = strCells s := by
  unfold bytesI strCells
  rw [List.flatMap_map]
  induction s.data.toList with
  | nil => rfl
  | cons x l ih => rw [List.flatMap_cons, ih, he]; rfl
/-- no other block known is a row of bytes -/
def othU (T : TypeId) (i j : Nat) : Nat → List Blk → Bool
  | _, [] => true
  | k, x :: l => (!(Nat.beq x.T T) || (Nat.beq k j || x.b.isNone)) && othU T i j (k + 1) l
theorem othU_of {T : TypeId} {i j : Nat} : ∀ {k : Nat} {l : List Blk}, othU T i j k l = true → ∀ (m : Nat) (x : Blk), l[m]? = some x → k + m ≠ j → ∀ c, x.b = some c → x.T ≠ T
  | k, [], _, m, x, hx, _, _, _ => by simp at hx
  | k, y :: l, h, m, x, hx, hne, c, hc => by
    simp only [othU, Bool.and_eq_true] at h
    cases m with
    | zero =>
      simp at hx; subst hx
      have h1 := h.1
      simp only [Bool.or_eq_true] at h1
      rcases h1 with h1 | h1 | h1
      · intro e; rw [e] at h1; simp at h1
      · exact absurd (Nat.eq_of_beq_eq_true h1) hne
      · rw [hc] at h1; cases h1
    | succ m =>
      simp at hx
      exact othU_of h.2 m x hx (by omega) c hc
/-- what a builder's box and its row are -/
structure BldS (P : Program) (ρ : Ren) (w0 : World) (Lb : List Blk) (i j b : Nat) (q : Bool) (o : Option Nat) (n c : Nat) (enc : Int → List Value) (xs : List Int) (sp : List Value) : Prop where
  hi : Lb[i]? = some ⟨some b, ρ.t 72, [bp q b, .slice (o.map fun b => ⟨b, 0, none⟩) n c]⟩
  hj : Lb[j]? = some ⟨o, ρ.t 5, row enc xs sp⟩
  hn : xs.length = n
  hs : o ≠ none → n ≤ c ∧ sp.length = (c - n) * 1
  ho : o = none → xs = [] ∧ c = 0
  hc : c ≤ 9223372036854775807
  he : ∀ x, enc x = [.int .u8 x]
  hot : othU (ρ.t 5) i j 0 Lb = true
  ij : i ≠ j
theorem row_len1 {enc : Int → List Value} (he : ∀ x, enc x = [.int .u8 x]) (xs : List Int) (sp : List Value) : (row enc xs sp).length = xs.length + sp.length := by
  unfold row
  rw [List.length_append, flatMap_len (m := 1) (fun x => by rw [he]; rfl)]
  omega
theorem BldS.own {i j b : Nat} {q : Bool} {o : Option Nat} {n c : Nat} {enc : Int → List Value} {xs : List Int} {sp : List Value} {w : World} (h : BldS P ρ w0 Lb i j b q o n c enc xs sp) (hm : Mem w0 [] Lb w) :
    w.ownsRow w0.heap.size (ρ.t 5) 1 (.slice (o.map fun b => ⟨b, 0, none⟩) n c) n (xs.flatMap enc) := by
  have hfl : (xs.flatMap enc).length = xs.length := by rw [flatMap_len (m := 1) (fun x => by rw [h.he]; rfl)]; omega
  refine ⟨by rw [hfl, h.hn]; omega, ?_⟩
  cases o with
  | none =>
    obtain ⟨h1, h2⟩ := h.ho rfl
    have hn := h.hn
    subst h1 h2
    simp at hn
    subst hn
    exact .inl ⟨rfl, rfl⟩
  | some g =>
    obtain ⟨h1, h2⟩ := h.hs (by simp)
    have hx := List.mem_of_getElem? h.hj
    refine .inr ⟨g, c, (row enc xs sp).toArray, rfl, ?_, hm.own _ hx g rfl, h1, h.hc, ?_, ?_⟩
    · rcases hm.new _ hx g rfl with h' | h'
      · cases h'
      · exact h'
    · have := row_len1 h.he xs sp
      have := h.hn
      simp only [List.size_toArray]
      omega
    · have := h.hn
      simp only [row]
      rw [List.take_append_of_le_length (by rw [hfl]; omega), List.take_of_length_le (by rw [hfl]; omega)]
theorem BldS.builder (X : Builder.Extra P ρ) {i j b : Nat} {q : Bool} {o : Option Nat} {n c : Nat} {enc : Int → List Value} {xs : List Int} {sp : List Value} {w : World} (h : BldS P ρ w0 Lb i j b q o n c enc xs sp) (hm : Mem w0 [] Lb w) :
    IsBuilder (ρ.t 72) (ρ.t 5) w0.heap.size b (xs.flatMap enc) w := by
  have hx := List.mem_of_getElem? h.hi
  have hb : w0.heap.size ≤ b := by
    rcases hm.new _ hx b rfl with h' | h'
    · cases h'
    · exact h'
  have hbk := hm.own _ hx b rfl
  have hfl : (xs.flatMap enc).length = n := by rw [flatMap_len (m := 1) (fun x => by rw [h.he]; rfl), h.hn]; omega
  have hA : BuilderAt (ρ.t 72) (ρ.t 5) w0.heap.size b (bp q b) (xs.flatMap enc) w := by
    refine ⟨hb, _, hbk, by rw [hfl]; exact h.own hm, ?_⟩
    exact ownBlock_ne (h.own hm) hbk X.neB5
  cases q with
  | false => exact .inl hA
  | true => exact .inr hA
/-- copyCheck -/
theorem chk_calls (L : Lays.n240 P ρ) (X : Builder.X72 P ρ) {i b : Nat} {q : Bool} {v : Value} (hi : Lb[i]? = some ⟨some b, ρ.t 72, [bp q b, v]⟩) (w : World) (hm : Mem w0 [] Lb w) :
    Calls P (ρ.f 240) #[.pointer (some ⟨b, 0, none⟩)] w fun e w' => e = .returned (.tuple #[]) ∧ Mem w0 [] (Lb.set i ⟨some b, ρ.t 72, [bp true b, v]⟩) w' := by
  have hx := List.mem_of_getElem? hi
  have hbk := hm.own _ hx b rfl
  cases q with
  | false =>
    refine (Any.Builder_copyCheck_fresh L X b w (by rw [Lib.cell_of_heap hbk]; rfl) (by simp [World.shape?, hbk]) (Lib.frozen_of_heap hbk 0)).mono ?_
    rintro e w' ⟨rfl, rfl⟩
    exact ⟨rfl, hm.set hi 0 (.pointer (some ⟨b, 0, none⟩))⟩
  | true =>
    refine (Any.Builder_copyCheck_used L X b w (by rw [Lib.cell_of_heap hbk]; rfl)).mono ?_
    rintro e w' ⟨rfl, rfl⟩
    exact ⟨rfl, by rw [set_self hi]; exact hm⟩
theorem set_get {α : Type} {l : List α} {i : Nat} {y : α} (h : i < l.length) : (l.set i y)[i]? = some y := by
  simp [h]
theorem set_get_ne {α : Type} {l : List α} {i j : Nat} {y : α} (h : i ≠ j) : (l.set i y)[j]? = l[j]? := by
  simp [List.getElem?_set, h]
theorem lt_of_get {α : Type} {l : List α} {i : Nat} {y : α} (h : l[i]? = some y) : i < l.length := (List.getElem?_eq_some_iff.1 h).1
theorem othU_set {T : TypeId} {i j : Nat} {y : Blk} : ∀ {k m : Nat} {l : List Blk} {x : Blk}, othU T i j k l = true → l[m]? = some x → y.T = x.T → y.b = x.b → othU T i j k (l.set m y) = true
  | k, _, [], x, _, hx, _, _ => by simp at hx
  | k, 0, z :: l, x, h, hx, h1, h2 => by
    simp at hx; subst hx
    simp only [List.set_cons_zero, othU, Bool.and_eq_true] at h ⊢
    rw [h1, h2]; exact h
  | k, m + 1, z :: l, x, h, hx, h1, h2 => by
    simp at hx
    simp only [List.set_cons_succ, othU, Bool.and_eq_true] at h ⊢
    exact ⟨h.1, othU_set h.2 hx h1 h2⟩
omit dsW in
theorem nodup_set_any {x : Blk} : ∀ {L : List Blk} {i : Nat}, (L.filterMap Blk.b).Nodup → (∀ (m : Nat) (z : Blk), L[m]? = some z → m ≠ i → ∀ b, z.b = some b → x.b ≠ some b) → ((L.set i x).filterMap Blk.b).Nodup := by
  intro L
  induction L with
  | nil => intro i h _; simp
  | cons y L ih =>
    intro i h hn
    have hd' : (L.filterMap Blk.b).Nodup := by
      rw [List.filterMap_cons] at h
      split at h
      · exact h
      · exact (List.nodup_cons.1 h).2
    cases i with
    | zero =>
      rw [List.set_cons_zero, List.filterMap_cons]
      split
      · exact hd'
      · rename_i b hb
        refine List.nodup_cons.2 ⟨?_, hd'⟩
        intro hm
        obtain ⟨z, hz, hzb⟩ := List.mem_filterMap.1 hm
        obtain ⟨m, hm'⟩ := List.mem_iff_getElem?.1 hz
        exact hn (m + 1) z (by simpa using hm') (by omega) b hzb hb
    | succ i =>
      rw [List.set_cons_succ, List.filterMap_cons]
      have h2 := ih (i := i) hd' (fun m z hz hne b hb => hn (m + 1) z (by simpa using hz) (by omega) b hb)
      split
      · exact h2
      · rename_i b hb
        refine List.nodup_cons.2 ⟨?_, h2⟩
        intro hm
        obtain ⟨z, hz, hzb⟩ := List.mem_filterMap.1 hm
        rcases List.mem_or_eq_of_mem_set hz with hz | rfl
        · rw [List.filterMap_cons, hb] at h
          exact (List.nodup_cons.1 h).1 (List.mem_filterMap.2 ⟨z, hz, hzb⟩)
        · exact hn 0 y (by simp) (by omega) b hb hzb
/-- a row of bytes that has grown -/
theorem mem_grownBy (lo : ¬ dsW.S) {w w' : World} {j : Nat} {e : TypeId} {o : Option Nat} {cs : List Value} {v' : Value} {n : Nat} {ys : List Value} (hm : Mem w0 [] Lb w) (hj : Lb[j]? = some ⟨o, e, cs⟩) (hg : w.grownBy w' o) (hown : w'.ownsRow w0.heap.size e 1 v' n ys)
    (hot : ∀ (m : Nat) (x : Blk), Lb[m]? = some x → m ≠ j → ∀ c, x.b = some c → x.T ≠ e) :
    ∃ (o' : Option Nat) (c' : Nat) (sp' : List Value), (o' ≠ none → n ≤ c' ∧ sp'.length = (c' - n) * 1) ∧ (o' = none → n = 0 ∧ c' = 0) ∧ c' ≤ 9223372036854775807 ∧ v' = .slice (o'.map fun b => ⟨b, 0, none⟩) n c' ∧ Mem w0 [] (Lb.set j ⟨o', e, ys ++ sp'⟩) w' := by
  obtain ⟨hlen, hcase⟩ := hown
  have hjl := lt_of_get hj
  have key : ∀ x ∈ Lb, ∀ b, x.b = some b → some b ≠ o → w'.heap[b]? = some (.cells x.cs.toArray x.T (0, 0)) := by
    intro x hx b hb hne
    rw [hg.block b (hm.lt hx hb) hne]
    exact hm.own x hx b hb
  have old : ∀ b, b < w0.heap.size → b ∉ ([] : List Nat) → w'.heap[b]? = w0.heap[b]? := by
    intro b hb hn
    have h1 := hm.size
    rw [hg.block b (by omega) ?_]
    · exact hm.old b hb hn
    · rintro rfl
      rcases hm.new _ (List.mem_of_getElem? hj) b rfl with h' | h'
      · cases h'
      · omega
  have other : ∀ {y z : Blk}, z ∈ Lb.set j y → z = y ∨ ∃ m, Lb[m]? = some z ∧ m ≠ j := by
    intro y z hz
    obtain ⟨m, hm'⟩ := List.mem_iff_getElem?.1 hz
    by_cases e : m = j
    · subst e; rw [set_get hjl] at hm'; exact .inl (Option.some.inj hm').symm
    · rw [set_get_ne (Ne.symm e)] at hm'; exact .inr ⟨m, hm', e⟩
  have apart : ∀ {m : Nat} {z : Blk}, Lb[m]? = some z → m ≠ j → ∀ b, z.b = some b → some b ≠ o := by
    intro m z hz hne b hb e
    have h3 := hm.own _ (List.mem_of_getElem? hz) b hb
    have h4 := hm.own _ (List.mem_of_getElem? hj) b e.symm
    rw [h3] at h4
    simp only [Option.some.injEq, Obj.cells.injEq] at h4
    exact hot m z hz hne b hb h4.2.1
  rcases hcase with ⟨rfl, hn⟩ | ⟨g, cap, cur, rfl, hbg, hgg, hnc, hcm, hcs, htake⟩
  · refine ⟨none, 0, [], fun e => absurd rfl e, fun _ => ⟨hn, rfl⟩, by omega, by rw [hn]; rfl, ?_⟩
    refine ⟨hg.os.trans hm.os, hg.tape.trans hm.tape, hg.output.trans hm.output, Drw.any lo _ _, Nat.le_trans hm.size hg.size, old, ?_, ?_, ?_⟩
    · intro z hz b hb
      rcases other hz with rfl | ⟨m, h1, h2⟩
      · cases hb
      · exact key z (List.mem_of_getElem? h1) b hb (apart h1 h2 b hb)
    · exact nodup_set_any hm.dis (fun _ _ _ _ _ _ e => nomatch e)
    · intro z hz b hb
      rcases other hz with rfl | ⟨m, h1, h2⟩
      · cases hb
      · exact hm.new z (List.mem_of_getElem? h1) b hb
  · have hys : ys.length = n := by omega
    refine ⟨some g, cap, cur.toList.drop n, fun _ => ⟨hnc, by simp [hcs]⟩, (fun e => nomatch e), hcm, rfl, ?_⟩
    have hcat : ys ++ cur.toList.drop n = cur.toList := by
      rw [← htake, Nat.mul_one, List.take_append_drop]
    rw [hcat]
    have hfree : ∀ {m : Nat} {z : Blk}, Lb[m]? = some z → m ≠ j → z.b ≠ some g := by
      intro m z hz hne hb
      have h1 := key z (List.mem_of_getElem? hz) g hb (apart hz hne g hb)
      rw [hgg] at h1
      simp only [Option.some.injEq, Obj.cells.injEq] at h1
      exact hot m z hz hne g hb h1.2.1.symm
    refine ⟨hg.os.trans hm.os, hg.tape.trans hm.tape, hg.output.trans hm.output, Drw.any lo _ _, Nat.le_trans hm.size hg.size, old, ?_, ?_, ?_⟩
    · intro z hz b hb
      rcases other hz with rfl | ⟨m, h1, h2⟩
      · cases hb; simpa using hgg
      · exact key z (List.mem_of_getElem? h1) b hb (apart h1 h2 b hb)
    · exact nodup_set_any hm.dis (fun m z h1 h2 b hb e => hfree h1 h2 (by cases e; exact hb))
    · intro z hz b hb
      rcases other hz with rfl | ⟨m, h1, h2⟩
      · cases hb; exact .inr hbg
      · exact hm.new z (List.mem_of_getElem? h1) b hb
set_option maxHeartbeats 2000000 in
set_option maxRecDepth 100000 in
theorem wstr_calls (L : Lays.n166 P ρ) (X : Builder.Extra P ρ) (lo : ¬ dsW.S) {i j b : Nat} {q : Bool} {o : Option Nat} {n c : Nat} {enc : Int → List Value} {xs : List Int} {sp : List Value} (h : BldS P ρ w0 Lb i j b q o n c enc xs sp) (s : ByteArray)
    (hbig : xs.length + s.size ≤ 140737488355328) (w : World) (hm : Mem w0 [] Lb w) :
    Calls P (ρ.f 166) #[.pointer (some ⟨b, 0, none⟩), .string s] w fun e w' => e = .returned (.tuple #[.int .i64 s.size, .nilIface]) ∧ ∃ (o' : Option Nat) (c' : Nat) (sp' : List Value),
      (o' ≠ none → (xs ++ bytesI s).length ≤ c' ∧ sp'.length = (c' - (xs ++ bytesI s).length) * 1) ∧ (o' = none → xs ++ bytesI s = [] ∧ c' = 0) ∧ c' ≤ 9223372036854775807 ∧
      Mem w0 [] ((Lb.set i ⟨some b, ρ.t 72, [bp true b, .slice (o'.map fun b => ⟨b, 0, none⟩) (xs ++ bytesI s).length c']⟩).set j ⟨o', ρ.t 5, row enc (xs ++ bytesI s) sp'⟩) w' := by
  obtain ⟨i0, hi, hz0, hz1, hz2⟩ := info_parts X.infoByte
  have HH := Any.hidU h
  have HM := Any.hidU hm
  have mixed := L.mixed
  have t72 := L.t72; have a72 := L.a72; have z72 := L.z72; have v72 := L.v72; have u72 := run_underlying L.t72
  have t70 := L.t70; have a70 := L.a70; have z70 := L.z70; have v70 := L.v70; have u70 := run_underlying L.t70
  have t37 := L.t37; have a37 := L.a37; have z37 := L.z37; have v37 := L.v37; have u37 := run_underlying L.t37
  have t3 := L.t3; have a3 := L.a3; have z3 := L.z3; have v3 := L.v3; have u3 := run_underlying L.t3
  have t9 := L.t9; have a9 := L.a9; have z9 := L.z9; have v9 := L.v9; have u9 := run_underlying L.t9
  have t4 := L.t4; have a4 := L.a4; have z4 := L.z4; have v4 := L.v4; have u4 := run_underlying L.t4
  have t164 := L.t164; have a164 := L.a164; have z164 := L.z164; have v164 := L.v164; have u164 := run_underlying L.t164
  have t5 := X.t5; have a5 := X.a5; have z5 := X.z5; have v5 := X.v5; have u5 := run_underlying X.t5
  have e240 : ∀ args w, (callFunc (ρ.f 240) args).run P w = .ok (.enter (ρ.f 240) args) w := enters_of L.f240 (by kernel_rfl) rfl
  clear h hm
  go_enter L.f166, Body.n166_ntmps ρ
  go_wp2_with (go_at_fn (ρ.f 240); refine (chk_calls { L with } X.toX72 HH.out.hi _ HM.out).mono ?_)
  rintro e w1 ⟨rfl, hm1⟩
  have h1 : BldS P ρ w0 (Lb.set i ⟨some b, ρ.t 72, [bp true b, .slice (o.map fun b => ⟨b, 0, none⟩) n c]⟩) i j b true o n c enc xs sp := by
    have h := HH.out
    exact ⟨set_get (lt_of_get h.hi), by rw [set_get_ne h.ij]; exact h.hj, h.hn, h.hs, h.ho, h.hc, h.he, othU_set h.hot h.hi rfl rfl, h.ij⟩
  have hown := h1.own hm1
  have hbk := hm1.own _ (List.mem_of_getElem? h1.hi) b rfl
  have c0 : w1.cell? ⟨b, 0, none⟩ = some (.pointer (some ⟨b, 0, none⟩)) := by rw [Lib.cell_of_heap hbk]; rfl
  have c1 : w1.cell? ⟨b, 1, none⟩ = some (.slice (o.map fun b => ⟨b, 0, none⟩) n c) := by rw [Lib.cell_of_heap hbk]; rfl
  have hnn := HH.out.hn
  have hsz := hm1.size
  have H1 := Any.hidU h1
  have HM1 := Any.hidU hm1
  clear h1 hm1
  go_wp2_with (at_builtin; refine Lib.wpList_append_own_string _ rfl _ _ (ρ.t 37) (ρ.t 9) rfl w0.heap.size (ρ.t 5) i0 L.t37 L.t9 hi hz0 hz1 hz2 _ _ _ rfl hown s rfl ?c3 ?c4 ?c5 ?_)
  case c3 => unfold maxLen; omega
  case c4 => omega
  case c5 => omega
  intro v' w2 hown' hgrow _
  have h1 := H1.out
  have hob : (Value.slice (o.map fun b => (⟨b, 0, none⟩ : Addr)) n c).ownBlock = o := by cases o <;> rfl
  rw [hob] at hgrow
  obtain ⟨o', c', sp', k1, k2, k3, rfl, hm2⟩ := mem_grownBy lo HM1.out h1.hj hgrow hown' (fun m x hx hne c hc => othU_of h1.hot m x hx (by simpa using hne) c hc)
  have hrow : xs.flatMap enc ++ strCells s ++ sp' = row enc (xs ++ bytesI s) sp' := by
    unfold row
    rw [List.flatMap_append, bytesI_row h1.he]
  have hlen : (xs ++ bytesI s).length = n + s.size := by rw [List.length_append, bytesI_len, hnn]
  rw [hrow] at hm2
  have h2i : ((Lb.set i ⟨some b, ρ.t 72, [bp true b, .slice (o.map fun b => ⟨b, 0, none⟩) n c]⟩).set j ⟨o', ρ.t 5, row enc (xs ++ bytesI s) sp'⟩)[i]? = some ⟨some b, ρ.t 72, [bp true b, .slice (o.map fun b => ⟨b, 0, none⟩) n c]⟩ := by
    rw [set_get_ne (Ne.symm h1.ij)]; exact h1.hi
  have hb2 := hm2.own _ (List.mem_of_getElem? h2i) b rfl
  have d0 : w2.cell? ⟨b, 0, none⟩ = some (.pointer (some ⟨b, 0, none⟩)) := by rw [Lib.cell_of_heap hb2]; rfl
  have d1 : w2.cell? ⟨b, 1, none⟩ = some (.slice (o.map fun b => ⟨b, 0, none⟩) n c) := by rw [Lib.cell_of_heap hb2]; rfl
  have f1 : w2.frozen? ⟨b, 1, none⟩ = false := Lib.frozen_of_heap hb2 1
  have hm3 := hm2.set h2i 1 (.slice (o'.map fun b => ⟨b, 0, none⟩) (n + s.size) c')
  have HM3 := Any.hidU hm3
  clear hm2 hm3
  go_wp2
  go_ret2
  refine ⟨rfl, o', c', sp', by simpa using k1, ?_, k3, ?_⟩
  · intro e
    obtain ⟨k4, k5⟩ := k2 e
    exact ⟨List.append_eq_nil_iff.1 (List.eq_nil_of_length_eq_zero (by rw [hlen]; exact k4)), k5⟩
  · have hm3 := HM3.out
    rw [List.set_comm _ _ (Ne.symm h1.ij), List.set_set] at hm3
    exact hm3
/-- String -/
theorem str_calls (L : Lays.n169 P ρ) (X : Builder.Extra P ρ) (lo : ¬ dsW.S) {i j b : Nat} {q : Bool} {o : Option Nat} {n c : Nat} {enc : Int → List Value} {xs : List Int} {sp : List Value} (h : BldS P ρ w0 Lb i j b q o n c enc xs sp) (r : ByteArray)
    (hr : strF xs = some r) (w : World) (hm : Mem w0 [] Lb w) :
    Calls P (ρ.f 169) #[.pointer (some ⟨b, 0, none⟩)] w fun e w' => e = .returned (.string r) ∧ Mem w0 [] ((Lb.set i ⟨none, 0, []⟩).set j ⟨none, 0, []⟩) w' := by
  unfold strF at hr
  split at hr
  · rename_i hx
    cases hr
    have hb := h.builder X hm
    have hbytes : xs.flatMap enc = byteCells (xs.map fun n => UInt8.ofNat n.toNat) := by
      rw [← hx, bytesI_row h.he, hx]; rfl
    rw [hbytes] at hb
    refine (Any.Builder_String_any_k L X w0.heap.size b _ w (IsBuilderF.of hb) hm.size).mono ?_
    rintro e w' ⟨rfl, _, hB, hO⟩
    refine ⟨rfl, ?_⟩
    have hij := h.ij
    have hlen : i < Lb.length := lt_of_get h.hi
    have other : ∀ {z : Blk}, z ∈ (Lb.set i ⟨none, 0, []⟩).set j ⟨none, 0, []⟩ → ∀ c, z.b = some c → ∃ m, Lb[m]? = some z ∧ m ≠ j ∧ m ≠ i := by
      intro z hz c hc
      obtain ⟨m, hm'⟩ := List.mem_iff_getElem?.1 hz
      have hml := lt_of_get hm'
      simp only [List.length_set] at hml
      by_cases e : m = j
      · subst e; rw [set_get (by simpa using hml)] at hm'; cases hm'; cases hc
      · rw [set_get_ne (Ne.symm e)] at hm'
        by_cases e2 : m = i
        · subst e2; rw [set_get hml] at hm'; cases hm'; cases hc
        · rw [set_get_ne (Ne.symm e2)] at hm'; exact ⟨m, hm', e, e2⟩
    refine ⟨hB.os.trans hm.os, hB.tape.trans hm.tape, hB.output.trans hm.output, Drw.any lo _ _, Nat.le_trans hm.size hB.size, fun k hk hn => (hB.block k hk).trans (hm.old k hk hn), ?_, ?_, ?_⟩
    · intro z hz k hk
      obtain ⟨m, h1, h2, h3⟩ := other hz k hk
      have hz1 := hm.own z (List.mem_of_getElem? h1) k hk
      refine hO k _ hz1 ?_ ?_
      · intro e
        cases e
        have hd := hm.dis
        have := mem_set_of (y := ⟨none, 0, []⟩) (z := z) h.hi hd (List.mem_of_getElem? (by rw [set_get_ne (Ne.symm h3)]; exact h1))
        rcases this with rfl | ⟨_, h4⟩
        · cases hk
        · exact h4 b b hk rfl rfl
      · intro c' fz e
        simp only [Obj.cells.injEq] at e
        exact othU_of h.hot m z h1 (by simpa using h2) k hk e.2.1
    · exact nodup_set_any (nodup_set_any hm.dis (fun _ _ _ _ _ _ e => nomatch e)) (fun _ _ _ _ _ _ e => nomatch e)
    · intro z hz k hk
      obtain ⟨m, h1, h2, h3⟩ := other hz k hk
      exact hm.new z (List.mem_of_getElem? h1) k hk
  · cases hr
/-- the same, the numbers of the program told -/
theorem wstr_c (L : Lays.n166 P ρ) (X : Builder.Extra P ρ) (lo : ¬ dsW.S) (T72 T5 : Nat) (h72 : ρ.t 72 = T72) (h5 : ρ.t 5 = T5) (i j b : Nat) (q : Bool) (o : Option Nat) (n c : Nat) (enc : Int → List Value) (xs : List Int) (sp : List Value)
    (hi : Lb[i]? = some ⟨some b, T72, [bp q b, .slice (o.map fun b => ⟨b, 0, none⟩) n c]⟩) (hj : Lb[j]? = some ⟨o, T5, row enc xs sp⟩) (hn : xs.length = n) (hs : o ≠ none → n ≤ c ∧ sp.length = (c - n) * 1) (ho : o = none → xs = [] ∧ c = 0) (hc : c ≤ 9223372036854775807) (he : ∀ x, enc x = [.int .u8 x]) (hot : othU T5 i j 0 Lb = true) (ij : i ≠ j) (s : ByteArray) (hbig : xs.length + s.size ≤ 140737488355328) (w : World) (hm : Mem w0 [] Lb w) :
    Calls P (ρ.f 166) #[.pointer (some ⟨b, 0, none⟩), .string s] w fun e w' => ∃ v, e = .returned v ∧ ∃ (o' : Option Nat) (c' : Nat) (sp' : List Value),
      (o' ≠ none → (xs ++ bytesI s).length ≤ c' ∧ sp'.length = (c' - (xs ++ bytesI s).length) * 1) ∧ (o' = none → xs ++ bytesI s = [] ∧ c' = 0) ∧ c' ≤ 9223372036854775807 ∧ v = .tuple #[.int .i64 s.size, .nilIface] ∧
      Mem w0 [] ((Lb.set i ⟨some b, T72, [bp true b, .slice (o'.map fun b => ⟨b, 0, none⟩) (xs ++ bytesI s).length c']⟩).set j ⟨o', T5, row enc (xs ++ bytesI s) sp'⟩) w' := by
  subst h72 h5
  refine (wstr_calls L X lo ⟨hi, hj, hn, hs, ho, hc, he, hot, ij⟩ s hbig w hm).mono ?_
  rintro e w' ⟨rfl, o', c', sp', h1, h2, h3, h4⟩
  exact ⟨_, rfl, o', c', sp', h1, h2, h3, rfl, h4⟩
theorem str_c (L : Lays.n169 P ρ) (X : Builder.Extra P ρ) (lo : ¬ dsW.S) (T72 T5 : Nat) (h72 : ρ.t 72 = T72) (h5 : ρ.t 5 = T5) (i j b : Nat) (q : Bool) (o : Option Nat) (n c : Nat) (enc : Int → List Value) (xs : List Int) (sp : List Value)
    (hi : Lb[i]? = some ⟨some b, T72, [bp q b, .slice (o.map fun b => ⟨b, 0, none⟩) n c]⟩) (hj : Lb[j]? = some ⟨o, T5, row enc xs sp⟩) (hn : xs.length = n) (hs : o ≠ none → n ≤ c ∧ sp.length = (c - n) * 1) (ho : o = none → xs = [] ∧ c = 0) (hc : c ≤ 9223372036854775807) (he : ∀ x, enc x = [.int .u8 x]) (hot : othU T5 i j 0 Lb = true) (ij : i ≠ j) (r : ByteArray) (hr : strF xs = some r) (w : World) (hm : Mem w0 [] Lb w) :
    Calls P (ρ.f 169) #[.pointer (some ⟨b, 0, none⟩)] w fun e w' => ∃ v, e = .returned v ∧ (v = .string r ∧ Mem w0 [] ((Lb.set i ⟨none, 0, []⟩).set j ⟨none, 0, []⟩) w') := by
  subst h72 h5
  refine (str_calls L X lo ⟨hi, hj, hn, hs, ho, hc, he, hot, ij⟩ r hr w hm).mono ?_
  rintro e w' ⟨rfl, h⟩
  exact ⟨_, rfl, rfl, h⟩
end Go.Proofs.YtplklknkkaeniaaDoor.Eng
