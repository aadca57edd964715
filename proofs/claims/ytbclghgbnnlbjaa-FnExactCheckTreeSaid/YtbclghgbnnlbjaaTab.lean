import Derived.Test.YtbclghgbnnlbjaaEng
/-! Tables: rows of rows that are not written any more. -/
namespace Go.Proofs.Ytbclghgbnnlbjaa.Eng
open Go
set_option linter.unusedSectionVars false
section
variable [dsW : DrwS] [dfW : DfS] {P : Program} {n : Nat} {w0 : World} {W : List Nat} {Q : Exit → Act → World → Prop} {E : Env} {L : List Blk} {ops : Array Oper}
def cluV : Option Addr → List Value → Value
  | some a, vs => .tuple #[.pointer (some ⟨a.block, a.off, none⟩), .agg vs.toArray]
  | none, _ => .nilIface
/-- what a table's entry is: the rows' cells -/
def cluC {S : Type} (enc : S → List Value) (hs : List Hd) (xss : List (List S)) : List Value := (hs.zip xss).map fun p => cluV p.1.a (row enc p.2 [])
/-- heads and rows go together -/
def InP {S : Type} (hs : List Hd) (xss : List (List S)) : Prop :=
  hs.length = xss.length ∧ ∀ (i : Nat) h xs, hs[i]? = some h → xss[i]? = some xs → xs.length = h.n ∧ (xs ≠ [] → h.a = some ⟨aB h.a, aO h.a, none⟩)
theorem InP.nil {S : Type} : InP [] ([] : List (List S)) := ⟨rfl, fun i h xs hh => by simp at hh⟩
theorem InP.snoc {S : Type} {hs : List Hd} {xss : List (List S)} (h : InP hs xss) {o : Option Nat} {xs : List S} {m c : Nat} (hn : xs.length = m) (ho : o = none → xs = []) : InP (hs ++ [⟨o.map fun b => ⟨b, 0, none⟩, m, c⟩]) (xss ++ [xs]) := by
  refine ⟨by simp [h.1], ?_⟩
  intro i g ys hg hy
  rcases Nat.lt_or_ge i hs.length with hi | hi
  · rw [List.getElem?_append_left hi] at hg
    rw [List.getElem?_append_left (by rw [← h.1]; exact hi)] at hy
    exact h.2 i g ys hg hy
  · rw [List.getElem?_append_right hi] at hg
    rw [List.getElem?_append_right (by rw [← h.1]; exact hi)] at hy
    rw [← h.1] at hy
    have e : i - hs.length = 0 := by
      rcases Nat.eq_zero_or_pos (i - hs.length) with e | e
      · exact e
      · rw [List.getElem?_eq_none (by simp; omega)] at hg; cases hg
    rw [e] at hg hy
    simp only [List.getElem?_cons_zero, Option.some.injEq] at hg hy
    subst hg hy
    refine ⟨hn, fun hne => ?_⟩
    cases o with
    | none => exact absurd (ho rfl) hne
    | some b => rfl
theorem InP.ixh {S : Type} {hs : List Hd} {xss : List (List S)} (h : InP hs xss) {j : Int} {x : List S} (hx : ix xss j = some x) : ix hs j = some (hd hs j) := by
  obtain ⟨h0, _, h2⟩ := ix_some hx
  have hl : j.toNat < hs.length := by rw [h.1]; exact (List.getElem?_eq_some_iff.1 h2).1
  unfold ix
  rw [if_pos h0]
  simp [hd, hl]
theorem InP.get {S : Type} {hs : List Hd} {xss : List (List S)} (h : InP hs xss) {j : Int} {x : List S} (hx : ix xss j = some x) : x.length = (hd hs j).n ∧ (x ≠ [] → (hd hs j).a = some ⟨aB (hd hs j).a, aO (hd hs j).a, none⟩) := by
  obtain ⟨h0, _, h2⟩ := ix_some hx
  have hl : j.toNat < hs.length := by rw [h.1]; exact (List.getElem?_eq_some_iff.1 h2).1
  have := h.2 j.toNat hs[j.toNat] x (by simp [hl]) h2
  simpa [hd, hl] using this
theorem InP.sp {S : Type} {hs : List Hd} {xss : List (List S)} (h : InP hs xss) {j : Int} {x : List S} (hx : ix xss j = some x) {k : Int} {y : S} (hy : ix x k = some y) : (hd hs j).a = some ⟨aB (hd hs j).a, aO (hd hs j).a, none⟩ := (h.get hx).2 (ne_ix hy)
theorem tabbig {S : Type} {hs : List Hd} {xss : List (List S)} (h : InP hs xss) {g : Hd} (hg : xss.length + 1 ≤ 4294967296) : hs.length + [g].length ≤ 4294967296 := by rw [h.1]; exact hg
theorem cluC_snoc {S : Type} {enc : S → List Value} {hs : List Hd} {xss : List (List S)} (h : hs.length = xss.length) (g : Hd) (xs : List S) : cluC enc (hs ++ [g]) (xss ++ [xs]) = cluC enc hs xss ++ [cluV g.a (row enc xs [])] := by
  unfold cluC
  rw [List.zip_append h]
  simp
theorem fz_cluV {a : Option Addr} {vs : List Value} {p : Nat × Nat × List Value} (h : fz (cluV a vs) = some p) : a ≠ none ∧ p = (aB a, aO a, vs) := by
  cases a with
  | none => simp [cluV, fz] at h
  | some a =>
    simp only [cluV, fz, Option.some.injEq] at h
    exact ⟨by simp, h.symm⟩
theorem fzs_clu {cs : List Value} {p : Nat × Nat × List Value} : p ∈ fzs ⟨none, CLU, cs⟩ ↔ ∃ v ∈ cs, fz v = some p := by
  unfold fzs
  simp
theorem Mem.cluInn {S : Type} {w : World} (h : Mem w0 W L w) (c : Nat) {enc : S → List Value} {hs : List Hd} {xss : List (List S)} (hI : InP hs xss) {m : Nat} (hm : ∀ x, (enc x).length = m) (hx : L[c]? = some ⟨none, CLU, cluC enc hs xss⟩ := by kernel_rfl) :
    Inn w (L.filterMap Blk.b) m enc hs xss := by
  intro i xs hi
  have hil : i < hs.length := by rw [hI.1]; exact (List.getElem?_eq_some_iff.1 hi).1
  have hg : hs[i]? = some hs[i] := by simp [hil]
  obtain ⟨h1, h2⟩ := hI.2 i hs[i] xs hg hi
  refine ⟨hs[i], hg, ?_, h1, ?_⟩
  · have key : xs ≠ [] → FzOk w0 w (L.filterMap Blk.b) (aB hs[i].a, aO hs[i].a, row enc xs []) := by
      intro hne
      refine h.clu _ (mem_frz.2 ⟨_, List.mem_of_getElem? hx, fzs_clu.2 ⟨cluV hs[i].a (row enc xs []), ?_, ?_⟩⟩)
      · unfold cluC
        refine List.mem_map.2 ⟨(hs[i], xs), ?_, rfl⟩
        exact List.mem_of_getElem? (i := i) (by rw [List.getElem?_zip_eq_some]; exact ⟨hg, hi⟩)
      · rw [h2 hne]; rfl
    constructor
    · intro hne; exact ⟨h2 hne, (key hne).2.1⟩
    · intro j x hj k v hv
      have hne : xs ≠ [] := by rintro rfl; simp at hj
      have hf := flatMap_get hm xs j x hj k v hv
      have := (key hne).2.2.2 (j * m + k) v (by simpa [row] using hf)
      simpa [Nat.add_assoc] using this
  · intro hne hin
    have : FzOk w0 w (L.filterMap Blk.b) (aB hs[i].a, aO hs[i].a, row enc xs []) := by
      refine h.clu _ (mem_frz.2 ⟨_, List.mem_of_getElem? hx, fzs_clu.2 ⟨cluV hs[i].a (row enc xs []), ?_, ?_⟩⟩)
      · unfold cluC
        refine List.mem_map.2 ⟨(hs[i], xs), ?_, rfl⟩
        exact List.mem_of_getElem? (i := i) (by rw [List.getElem?_zip_eq_some]; exact ⟨hg, hi⟩)
      · rw [h2 hne]; rfl
    exact this.2.2.1 hin
theorem Inn.sub {S : Type} {w : World} {B B' : List Nat} {m : Nat} {enc : S → List Value} {hs : List Hd} {xss : List (List S)} (h : Inn w B m enc hs xss) (hB : ∀ b ∈ B', b ∈ B) : Inn w B' m enc hs xss := by
  intro i xs hi
  obtain ⟨y, h1, h2, h3, h4⟩ := h i xs hi
  exact ⟨y, h1, h2, h3, fun hne hb => h4 hne (hB _ hb)⟩
/-- a table handed on -/
theorem Mem.cluPass {S : Type} {w : World} (h : Mem w0 W L w) (c : Nat) {enc : S → List Value} {hs : List Hd} {xss : List (List S)} (hI : InP hs xss) {m : Nat} (hm : ∀ x, (enc x).length = m) (l : List Nat) {N : List Blk}
    (hx : L[c]? = some ⟨none, CLU, cluC enc hs xss⟩ := by kernel_rfl) (hN : at_ L l = N := by kernel_rfl) : Inn w (bs (N.map Blk.b)) m enc hs xss := by
  subst hN
  refine (h.cluInn c hI hm hx).sub fun b hb => ?_
  rw [bs_map] at hb
  obtain ⟨x, hx, hxb⟩ := List.mem_filterMap.1 hb
  exact List.mem_filterMap.2 ⟨x, at_mem x hx, hxb⟩
/-- a row of the program's own is not written any more -/
theorem Mem.freeze {S : Type} {w : World} (h : Mem w0 [] L w) (c i : Nat) {enc : S → List Value} {hs : List Hd} {xss : List (List S)} {o : Option Nat} {T : TypeId} {xs : List S} {sp : List Value} {m cap : Nat} (hl : hs.length = xss.length)
    (hc : L[c]? = some ⟨none, CLU, cluC enc hs xss⟩) (hi : L[i]? = some ⟨o, T, row enc xs sp⟩) (hci : Nat.beq c i = false) : Mem w0 [] ((L.set c ⟨none, CLU, cluC enc (hs ++ [⟨o.map fun b => ⟨b, 0, none⟩, m, cap⟩]) (xss ++ [xs])⟩).set i ⟨none, 0, []⟩) w := by
  have hne : c ≠ i := fun e => by rw [e] at hci; simp at hci
  have hsub : ∀ x ∈ (L.set c ⟨none, CLU, cluC enc (hs ++ [⟨o.map fun b => ⟨b, 0, none⟩, m, cap⟩]) (xss ++ [xs])⟩).set i ⟨none, 0, []⟩, ∀ b, x.b = some b → x ∈ L := by
    intro x hx b hb
    rcases List.mem_or_eq_of_mem_set hx with hx | rfl
    · rcases List.mem_or_eq_of_mem_set hx with hx | rfl
      · exact hx
      · cases hb
    · cases hb
  have hsl : ∀ {L : List Blk} {c : Nat} {cs : List Value} {T' : TypeId} {cs' : List Value}, L[c]? = some ⟨none, T', cs'⟩ → (L.set c ⟨none, CLU, cs⟩).filterMap Blk.b = L.filterMap Blk.b := fun h => nodup_set h rfl
  have hfm : ((L.set c ⟨none, CLU, cluC enc (hs ++ [⟨o.map fun b => ⟨b, 0, none⟩, m, cap⟩]) (xss ++ [xs])⟩).set i ⟨none, 0, []⟩).filterMap Blk.b = (L.set i ⟨none, 0, []⟩).filterMap Blk.b := by
    rw [List.set_comm _ _ hne]
    exact hsl (by rw [List.getElem?_set_ne (Ne.symm hne)]; exact hc)
  have hB : ∀ b, b ∈ (L.set i ⟨none, 0, []⟩).filterMap Blk.b → b ∈ L.filterMap Blk.b := fun b hb => (set_none_sub L i).subset hb
  refine ⟨h.os, h.tape, h.output, h.drw, h.size, h.old, fun x hx b hb => h.own x (hsub x hx b hb) b hb, ?_, fun x hx b hb => h.new x (hsub x hx b hb) b hb, ?_⟩
  · rw [hfm]; exact h.dis.sublist (set_none_sub L i)
  · intro p hp
    rw [hfm]
    have hp := frz_set_sub (y := ⟨none, 0, []⟩) fzs_none p hp
    obtain ⟨x, hx, hpx⟩ := mem_frz.1 hp
    have hold : p ∈ frz L → FzOk w0 w ((L.set i ⟨none, 0, []⟩).filterMap Blk.b) p := fun hq => (h.clu p hq).mono (hB _) (Nat.le_refl _) rfl
    rcases List.mem_or_eq_of_mem_set hx with hx | rfl
    · exact hold (mem_frz.2 ⟨x, hx, hpx⟩)
    · rw [cluC_snoc hl] at hpx
      obtain ⟨v, hv, hfv⟩ := fzs_clu.1 hpx
      rcases List.mem_append.1 hv with hv | hv
      · exact hold (mem_frz.2 ⟨_, List.mem_of_getElem? hc, fzs_clu.2 ⟨v, hv, hfv⟩⟩)
      · simp only [List.mem_singleton] at hv
        subst hv
        obtain ⟨h1, rfl⟩ := fz_cluV hfv
        cases o with
        | none => exact absurd rfl h1
        | some b =>
          have hin := List.mem_of_getElem? hi
          refine ⟨?_, h.lt hin rfl, ?_, ?_⟩
          · rcases h.new _ hin b rfl with h2 | h2
            · cases h2
            · exact h2
          · intro hb
            obtain ⟨y, hy, hyb⟩ := List.mem_filterMap.1 hb
            rcases mem_set_of (y := ⟨none, 0, []⟩) hi h.dis hy with rfl | ⟨_, h3⟩
            · cases hyb
            · exact h3 b b hyb rfl rfl
          · intro k v hv
            have hv : (row enc xs [])[k]? = some v := hv
            have := h.cell hin rfl k v (by
              unfold row at hv ⊢
              rw [List.append_nil] at hv
              rw [List.getElem?_append_left (List.getElem?_eq_some_iff.1 hv).1]; exact hv)
            simpa [aB, aO] using this
theorem jk_frz {K : Act → World → Prop} {S : Type} (c i m cap : Nat) {enc : S → List Value} {hs : List Hd} {xss : List (List S)} {o : Option Nat} {T : TypeId} {xs : List S} {sp : List Value} (hI : InP hs xss)
    (h : JK n w0 [] K E ((L.set c ⟨none, CLU, cluC enc (hs ++ [⟨o.map fun b => ⟨b, 0, none⟩, m, cap⟩]) (xss ++ [xs])⟩).set i ⟨none, 0, []⟩))
    (hc : L[c]? = some ⟨none, CLU, cluC enc hs xss⟩ := by kernel_rfl) (hi : L[i]? = some ⟨o, T, row enc xs sp⟩ := by kernel_rfl) (hci : Nat.beq c i = false := by kernel_rfl) : JK n w0 [] K E L :=
  fun a w hok => h a w (hok.mem' (hok.mem.freeze c i hI.1 hc hi hci))
/-- a table's entry -/
theorem jx_clu {S : Type} {e : Exit} (enc : S → List Value) (h : JX n w0 W e E (L ++ [⟨none, CLU, cluC enc [] []⟩]) Q) : JX n w0 W e E L Q := fun a w hok => h a w (hok.mem' (hok.mem.ghost CLU))
theorem jk_clu {K : Act → World → Prop} {S : Type} (enc : S → List Value) (h : JK n w0 W K E (L ++ [⟨none, CLU, cluC enc [] []⟩])) : JK n w0 W K E L := fun a w hok => h a w (hok.mem' (hok.mem.ghost CLU))
theorem jp_clu {S : Type} {k : Nat} {K : Act → World → Prop} (enc : S → List Value) (h : JP P n w0 W ops k K E (L ++ [⟨none, CLU, cluC enc [] []⟩]) Q) : JP P n w0 W ops k K E L Q := fun a w hok => h a w (hok.mem' (hok.mem.ghost CLU))
theorem jo_clu {S : Type} {k : Nat} (enc : S → List Value) (h : JO P n w0 W ops k E (L ++ [⟨none, CLU, cluC enc [] []⟩]) Q) : JO P n w0 W ops k E L Q := fun a w hok => h a w (hok.mem' (hok.mem.ghost CLU))
end
end Go.Proofs.Ytbclghgbnnlbjaa.Eng
