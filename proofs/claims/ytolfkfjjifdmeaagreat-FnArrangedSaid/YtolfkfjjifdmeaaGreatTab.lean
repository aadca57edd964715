import Derived.Test.YtolfkfjjifdmeaaGreatEng
/-! Tables: rows of rows that are not written any more. -/
namespace Go.Proofs.YtolfkfjjifdmeaaGreat.Eng
open Go
set_option linter.unusedSectionVars false
section
variable [dsW : DrwS] [dfW : DfS] {P : Program} {n : Nat} {w0 : World} {W : List Nat} {Q : Exit → Act → World → Prop} {E : Env} {L : List Blk} {ops : Array Oper}
def cluV : Option Addr → List Value → Value
  | some a, vs => .tuple #[.pointer (some ⟨a.block, a.off, none⟩), .agg vs.toArray]
  | none, _ => .nilIface
/-- what a table's entry is: the rows' cells -/
def cluC {S : Type} (enc : S → List Value) (hs : List Hd) (xss : List (List S)) : List Value := (hs.zip xss).map fun p => cluV p.1.a (row enc p.2 [])
/-- heads and rows go together -/
def InP {S : Type} (hs : List Hd) (xss : List (List S)) : Prop :=
  hs.length = xss.length ∧ ∀ (i : Nat) h xs, hs[i]? = some h → xss[i]? = some xs → xs.length = h.n ∧ (xs ≠ [] → h.a = some ⟨aB h.a, aO h.a, none⟩)
theorem InP.nil {S : Type} : InP [] ([] : List (List S)) := ⟨rfl, fun i h xs hh => by simp at hh⟩
theorem InP.snoc {S : Type} {hs : List Hd} {xss : List (List S)} (h : InP hs xss) {o : Option Nat} {xs : List S} {m c : Nat} (hn : xs.length = m) (ho : o = none → xs = []) : InP (hs ++ [⟨o.map fun b => ⟨b, 0, none⟩, m, c⟩]) (xss ++ [xs]) := by
  refine ⟨by simp [h.1], ?_⟩
  intro i g ys hg hy
  rcases Nat.lt_or_ge i hs.length with hi | hi
  · rw [List.getElem?_append_left hi] at hg
    rw [List.getElem?_append_left (by rw [← h.1]; exact hi)] at hy
    exact h.2 i g ys hg hy
  · rw [List.getElem?_append_right hi] at hg
    rw [List.getElem?_append_right (by rw [← h.1]; exact hi)] at hy
    rw [← h.1] at hy
    have e : i - hs.length = 0 := by
      rcases Nat.eq_zero_or_pos (i - hs.length) with e | e
      · exact e
      · rw [List.getElem?_eq_none (by simp; omega)] at hg; cases hg
    rw [e] at hg hy
    simp only [List.getElem?_cons_zero, Option.some.injEq] at hg hy
    subst hg hy
    refine ⟨hn, fun hne => ?_⟩
    cases o with
    | none => exact absurd (ho rfl) hne
    | some b => rfl
theorem InP.ixh {S : Type} {hs : List Hd} {xss : List (List S)} (h : InP hs xss) {j : Int} {x : List S} (hx : ix xss j = some x) : ix hs j = some (hd hs j) := by
  obtain ⟨h0, _, h2⟩ := ix_some hx
  have hl : j.toNat < hs.length := by rw [h.1]; exact (List.getElem?_eq_some_iff.1 h2).1
  unfold ix
  rw [if_pos h0]
  simp [hd, hl]
theorem InP.get {S : Type} {hs : List Hd} {xss : List (List S)} (h : InP hs xss) {j : Int} {x : List S} (hx : ix xss j = some x) : x.length = (hd hs j).n ∧ (x ≠ [] → (hd hs j).a = some ⟨aB (hd hs j).a, aO (hd hs j).a, none⟩) := by
  obtain ⟨h0, _, h2⟩ := ix_some hx
  have hl : j.toNat < hs.length := by rw [h.1]; exact (List.getElem?_eq_some_iff.1 h2).1
  have := h.2 j.toNat hs[j.toNat] x (by simp [hl]) h2
  simpa [hd, hl] using this
theorem InP.sp {S : Type} {hs : List Hd} {xss : List (List S)} (h : InP hs xss) {j : Int} {x : List S} (hx : ix xss j = some x) {k : Int} {y : S} (hy : ix x k = some y) : (hd hs j).a = some ⟨aB (hd hs j).a, aO (hd hs j).a, none⟩ := (h.get hx).2 (ne_ix hy)
theorem tabbig {S : Type} {hs : List Hd} {xss : List (List S)} (h : InP hs xss) {g : Hd} (hg : xss.length + 1 ≤ 4294967296) : hs.length + [g].length ≤ 4294967296 := by rw [h.1]; exact hg
theorem cluC_snoc {S : Type} {enc : S → List Value} {hs : List Hd} {xss : List (List S)} (h : hs.length = xss.length) (g : Hd) (xs : List S) : cluC enc (hs ++ [g]) (xss ++ [xs]) = cluC enc hs xss ++ [cluV g.a (row enc xs [])] := by
  unfold cluC
  rw [List.zip_append h]
  simp
theorem fz_cluV {a : Option Addr} {vs : List Value} {p : Nat × Nat × List Value} (h : fz (cluV a vs) = some p) : a ≠ none ∧ p = (aB a, aO a, vs) := by
  cases a with
  | none => simp [cluV, fz] at h
  | some a =>
    simp only [cluV, fz, Option.some.injEq] at h
    exact ⟨by simp, h.symm⟩
theorem fzs_clu {cs : List Value} {p : Nat × Nat × List Value} : p ∈ fzs ⟨none, CLU, cs⟩ ↔ ∃ v ∈ cs, fz v = some p := by
  unfold fzs
  simp
theorem Mem.cluInn {S : Type} {w : World} (h : Mem w0 W L w) (c : Nat) {enc : S → List Value} {hs : List Hd} {xss : List (List S)} (hI : InP hs xss) {m : Nat} (hm : ∀ x, (enc x).length = m) (hx : L[c]? = some ⟨none, CLU, cluC enc hs xss⟩ := by kernel_rfl) :
    Inn w (L.filterMap Blk.b) m enc hs xss := by
  intro i xs hi
  have hil : i < hs.length := by rw [hI.1]; exact (List.getElem?_eq_some_iff.1 hi).1
  have hg : hs[i]? = some hs[i] := by simp [hil]
  obtain ⟨h1, h2⟩ := hI.2 i hs[i] xs hg hi
  refine ⟨hs[i], hg, ?_, h1, ?_⟩
  · have key : xs ≠ [] → FzOk w0 w (L.filterMap Blk.b) (aB hs[i].a, aO hs[i].a, row enc xs []) := by
      intro hne
      refine h.clu _ (mem_frz.2 ⟨_, List.mem_of_getElem? hx, fzs_clu.2 ⟨cluV hs[i].a (row enc xs []), ?_, ?_⟩⟩)
      · unfold cluC
        refine List.mem_map.2 ⟨(hs[i], xs), ?_, rfl⟩
        exact List.mem_of_getElem? (i := i) (by rw [List.getElem?_zip_eq_some]; exact ⟨hg, hi⟩)
      · rw [h2 hne]; rfl
    constructor
    · intro hne; exact ⟨h2 hne, (key hne).2.1⟩
    · intro j x hj k v hv
      have hne : xs ≠ [] := by rintro rfl; simp at hj
      have hf := flatMap_get hm xs j x hj k v hv
      have := (key hne).2.2.2 (j * m + k) v (by simpa [row] using hf)
      simpa [Nat.add_assoc] using this
  · intro hne hin
    have : FzOk w0 w (L.filterMap Blk.b) (aB hs[i].a, aO hs[i].a, row enc xs []) := by
      refine h.clu _ (mem_frz.2 ⟨_, List.mem_of_getElem? hx, fzs_clu.2 ⟨cluV hs[i].a (row enc xs []), ?_, ?_⟩⟩)
      · unfold cluC
        refine List.mem_map.2 ⟨(hs[i], xs), ?_, rfl⟩
        exact List.mem_of_getElem? (i := i) (by rw [List.getElem?_zip_eq_some]; exact ⟨hg, hi⟩)
      · rw [h2 hne]; rfl
    exact this.2.2.1 hin
theorem Inn.sub {S : Type} {w : World} {B B' : List Nat} {m : Nat} {enc : S → List Value} {hs : List Hd} {xss : List (List S)} (h : Inn w B m enc hs xss) (hB : ∀ b ∈ B', b ∈ B) : Inn w B' m enc hs xss := by
  intro i xs hi
  obtain ⟨y, h1, h2, h3, h4⟩ := h i xs hi
  exact ⟨y, h1, h2, h3, fun hne hb => h4 hne (hB _ hb)⟩
/-- a table handed on -/
theorem Mem.cluPass {S : Type} {w : World} (h : Mem w0 W L w) (c : Nat) {enc : S → List Value} {hs : List Hd} {xss : List (List S)} (hI : InP hs xss) {m : Nat} (hm : ∀ x, (enc x).length = m) (l : List Nat) {N : List Blk}
    (hx : L[c]? = some ⟨none, CLU, cluC enc hs xss⟩ := by kernel_rfl) (hN : at_ L l = N := by kernel_rfl) : Inn w (bs (N.map Blk.b)) m enc hs xss := by
  subst hN
  refine (h.cluInn c hI hm hx).sub fun b hb => ?_
  rw [bs_map] at hb
  obtain ⟨x, hx, hxb⟩ := List.mem_filterMap.1 hb
  exact List.mem_filterMap.2 ⟨x, at_mem x hx, hxb⟩
/-- a row of the program's own is not written any more -/
theorem Mem.freezeW {S : Type} {w : World} (h : Mem w0 W L w) (c i : Nat) {enc : S → List Value} {hs : List Hd} {xss : List (List S)} {o : Option Nat} {T : TypeId} {xs : List S} {sp : List Value} {m cap : Nat} (hl : hs.length = xss.length)
    (hc : L[c]? = some ⟨none, CLU, cluC enc hs xss⟩) (hi : L[i]? = some ⟨o, T, row enc xs sp⟩) (hci : Nat.beq c i = false) (hW : ∀ b, o = some b → b ∉ W) : Mem w0 W ((L.set c ⟨none, CLU, cluC enc (hs ++ [⟨o.map fun b => ⟨b, 0, none⟩, m, cap⟩]) (xss ++ [xs])⟩).set i ⟨none, 0, []⟩) w := by
  have hne : c ≠ i := fun e => by rw [e] at hci; simp at hci
  have hsub : ∀ x ∈ (L.set c ⟨none, CLU, cluC enc (hs ++ [⟨o.map fun b => ⟨b, 0, none⟩, m, cap⟩]) (xss ++ [xs])⟩).set i ⟨none, 0, []⟩, ∀ b, x.b = some b → x ∈ L := by
    intro x hx b hb
    rcases List.mem_or_eq_of_mem_set hx with hx | rfl
    · rcases List.mem_or_eq_of_mem_set hx with hx | rfl
      · exact hx
      · cases hb
    · cases hb
  have hsl : ∀ {L : List Blk} {c : Nat} {cs : List Value} {T' : TypeId} {cs' : List Value}, L[c]? = some ⟨none, T', cs'⟩ → (L.set c ⟨none, CLU, cs⟩).filterMap Blk.b = L.filterMap Blk.b := fun h => nodup_set h rfl
  have hfm : ((L.set c ⟨none, CLU, cluC enc (hs ++ [⟨o.map fun b => ⟨b, 0, none⟩, m, cap⟩]) (xss ++ [xs])⟩).set i ⟨none, 0, []⟩).filterMap Blk.b = (L.set i ⟨none, 0, []⟩).filterMap Blk.b := by
    rw [List.set_comm _ _ hne]
    exact hsl (by rw [List.getElem?_set_ne (Ne.symm hne)]; exact hc)
  have hB : ∀ b, b ∈ (L.set i ⟨none, 0, []⟩).filterMap Blk.b → b ∈ L.filterMap Blk.b := fun b hb => (set_none_sub L i).subset hb
  refine ⟨h.os, h.tape, h.output, h.drw, h.size, h.old, fun x hx b hb => h.own x (hsub x hx b hb) b hb, ?_, fun x hx b hb => h.new x (hsub x hx b hb) b hb, ?_⟩
  · rw [hfm]; exact h.dis.sublist (set_none_sub L i)
  · intro p hp
    rw [hfm]
    have hp := frz_set_sub (y := ⟨none, 0, []⟩) fzs_none p hp
    obtain ⟨x, hx, hpx⟩ := mem_frz.1 hp
    have hold : p ∈ frz L → FzOk w0 w ((L.set i ⟨none, 0, []⟩).filterMap Blk.b) p := fun hq => (h.clu p hq).mono (hB _) (Nat.le_refl _) rfl
    rcases List.mem_or_eq_of_mem_set hx with hx | rfl
    · exact hold (mem_frz.2 ⟨x, hx, hpx⟩)
    · rw [cluC_snoc hl] at hpx
      obtain ⟨v, hv, hfv⟩ := fzs_clu.1 hpx
      rcases List.mem_append.1 hv with hv | hv
      · exact hold (mem_frz.2 ⟨_, List.mem_of_getElem? hc, fzs_clu.2 ⟨v, hv, hfv⟩⟩)
      · simp only [List.mem_singleton] at hv
        subst hv
        obtain ⟨h1, rfl⟩ := fz_cluV hfv
        cases o with
        | none => exact absurd rfl h1
        | some b =>
          have hin := List.mem_of_getElem? hi
          refine ⟨?_, h.lt hin rfl, ?_, ?_⟩
          · rcases h.new _ hin b rfl with h2 | h2
            · exact absurd h2 (hW b rfl)
            · exact h2
          · intro hb
            obtain ⟨y, hy, hyb⟩ := List.mem_filterMap.1 hb
            rcases mem_set_of (y := ⟨none, 0, []⟩) hi h.dis hy with rfl | ⟨_, h3⟩
            · cases hyb
            · exact h3 b b hyb rfl rfl
          · intro k v hv
            have hv : (row enc xs [])[k]? = some v := hv
            have := h.cell hin rfl k v (by
              unfold row at hv ⊢
              rw [List.append_nil] at hv
              rw [List.getElem?_append_left (List.getElem?_eq_some_iff.1 hv).1]; exact hv)
            simpa [aB, aO] using this
theorem Mem.freeze {S : Type} {w : World} (h : Mem w0 [] L w) (c i : Nat) {enc : S → List Value} {hs : List Hd} {xss : List (List S)} {o : Option Nat} {T : TypeId} {xs : List S} {sp : List Value} {m cap : Nat} (hl : hs.length = xss.length)
    (hc : L[c]? = some ⟨none, CLU, cluC enc hs xss⟩) (hi : L[i]? = some ⟨o, T, row enc xs sp⟩) (hci : Nat.beq c i = false) : Mem w0 [] ((L.set c ⟨none, CLU, cluC enc (hs ++ [⟨o.map fun b => ⟨b, 0, none⟩, m, cap⟩]) (xss ++ [xs])⟩).set i ⟨none, 0, []⟩) w :=
  h.freezeW c i hl hc hi hci (fun b _ hb => by cases hb)
theorem jk_frzW {K : Act → World → Prop} {S : Type} (c i m cap : Nat) (pw : List Nat) {ob : List (Option Nat)} {enc : S → List Value} {hs : List Hd} {xss : List (List S)} {o : Option Nat} {T : TypeId} {xs : List S} {sp : List Value} (hI : InP hs xss)
    (h : JK n w0 (bs ob) K E ((L.set c ⟨none, CLU, cluC enc (hs ++ [⟨o.map fun b => ⟨b, 0, none⟩, m, cap⟩]) (xss ++ [xs])⟩).set i ⟨none, 0, []⟩))
    (hc : L[c]? = some ⟨none, CLU, cluC enc hs xss⟩ := by kernel_rfl) (hi : L[i]? = some ⟨o, T, row enc xs sp⟩ := by kernel_rfl) (hci : Nat.beq c i = false := by kernel_rfl)
    (hw : (at_ L pw).map Blk.b = ob := by kernel_rfl) (hpw : pw.any (Nat.beq i) = false := by kernel_rfl) : JK n w0 (bs ob) K E L := by
  intro a w hok
  refine h a w (hok.mem' (hok.mem.freezeW c i hI.1 hc hi hci ?_))
  rintro b rfl hb
  subst hw
  rw [bs_map] at hb
  obtain ⟨y, hy, hyb⟩ := List.mem_filterMap.1 hb
  obtain ⟨j, hj, hjy⟩ := List.mem_filterMap.1 hy
  obtain rfl := blk_pos L hok.mem.dis i j _ _ b hi hjy rfl hyb
  have := List.any_eq_false.1 hpw i hj
  simp at this
theorem jk_frz {K : Act → World → Prop} {S : Type} (c i m cap : Nat) {enc : S → List Value} {hs : List Hd} {xss : List (List S)} {o : Option Nat} {T : TypeId} {xs : List S} {sp : List Value} (hI : InP hs xss)
    (h : JK n w0 [] K E ((L.set c ⟨none, CLU, cluC enc (hs ++ [⟨o.map fun b => ⟨b, 0, none⟩, m, cap⟩]) (xss ++ [xs])⟩).set i ⟨none, 0, []⟩))
    (hc : L[c]? = some ⟨none, CLU, cluC enc hs xss⟩ := by kernel_rfl) (hi : L[i]? = some ⟨o, T, row enc xs sp⟩ := by kernel_rfl) (hci : Nat.beq c i = false := by kernel_rfl) : JK n w0 [] K E L :=
  fun a w hok => h a w (hok.mem' (hok.mem.freeze c i hI.1 hc hi hci))
theorem jk_clu {K : Act → World → Prop} {S : Type} (enc : S → List Value) (h : JK n w0 W K E (L ++ [⟨none, CLU, cluC enc [] []⟩])) : JK n w0 W K E L := fun a w hok => h a w (hok.mem' (hok.mem.ghost CLU))
theorem jk_ghost {K : Act → World → Prop} {S : Type} (T : TypeId) (enc : S → List Value) (h : JK n w0 W K E (L ++ [⟨none, T, row enc [] []⟩])) : JK n w0 W K E L := fun a w hok => h a w (hok.mem' (hok.mem.ghost T))
end
/-! ### a slice in a box whose row may be replaced by one that came in -/
section loose
variable [dsW : DrwS] [dfW : DfS] {P : Program} {n : Nat} {w0 : World} {W : List Nat} {Q : Exit → Act → World → Prop} {E : Env} {L : List Blk} {ops : Array Oper}
/-- a row of its own, or one of those that came in -/
def LsB {S : Type} (o : Option Nat) (a : Option Addr) (c : Nat) (sp : List Value) (n : Nat) (xs : List S) (m : Nat) (F : List (Option Addr × Nat × List S)) : Prop :=
  (a = (o.map fun b => ⟨b, 0, none⟩) ∧ (o ≠ none → n ≤ c ∧ sp.length = (c - n) * m) ∧ (o = none → xs = [] ∧ c = 0)) ∨ (o = none ∧ (a, c, xs) ∈ F)
theorem ls0 {S : Type} {a : Option Addr} {c : Nat} {sp : List Value} {n : Nat} {xs : List S} {m : Nat} {F : List (Option Addr × Nat × List S)} : LsB none a c sp n xs m ((a, c, xs) :: F) := .inr ⟨rfl, List.mem_cons_self⟩
theorem ls1 {S : Type} {a : Option Addr} {c : Nat} {sp : List Value} {n : Nat} {xs : List S} {m : Nat} {p : Option Addr × Nat × List S} {F : List (Option Addr × Nat × List S)} : LsB none a c sp n xs m (p :: (a, c, xs) :: F) :=
  .inr ⟨rfl, List.mem_cons_of_mem _ List.mem_cons_self⟩
theorem lsO {S : Type} {o : Option Nat} {c : Nat} {sp : List Value} {n : Nat} {xs : List S} {m : Nat} {F : List (Option Addr × Nat × List S)} (h1 : o ≠ none → n ≤ c ∧ sp.length = (c - n) * m) (h2 : o = none → xs = [] ∧ c = 0) :
    LsB o (o.map fun b => ⟨b, 0, none⟩) c sp n xs m F := .inl ⟨rfl, h1, h2⟩
theorem LsB.own {S : Type} {o : Option Nat} {a : Option Addr} {c : Nat} {sp : List Value} {n : Nat} {xs : List S} {m : Nat} (h : LsB o a c sp n xs m []) :
    a = (o.map fun b => ⟨b, 0, none⟩) ∧ (o ≠ none → n ≤ c ∧ sp.length = (c - n) * m) ∧ (o = none → xs = [] ∧ c = 0) := by
  rcases h with h | ⟨_, h⟩
  · exact h
  · cases h
theorem nodup_pos {L : List Blk} : (L.filterMap Blk.b).Nodup ↔ ∀ (i j : Nat) (x y : Blk) (b : Nat), i ≠ j → L[i]? = some x → L[j]? = some y → x.b = some b → y.b ≠ some b := by
  constructor
  · intro h i j x y b hij hx hy hb hc
    exact hij (blk_pos L h i j x y b hx hy hb hc)
  · intro h
    unfold List.Nodup
    rw [List.pairwise_filterMap, List.pairwise_iff_getElem]
    intro i j hi hj hij b hb b' hb' e
    subst e
    exact h i j L[i] L[j] b (by omega) (by simp [hi]) (by simp [hj]) hb hb'
/-- a block's entry goes to another place -/
theorem Mem.mv {w : World} (h : Mem w0 W L w) (i z : Nat) {x : Blk} (hz : L[z]? = some x) (hiz : i ≠ z) : Mem w0 W ((L.set z ⟨none, 0, []⟩).set i x) w := by
  have hget : ∀ j y, ((L.set z ⟨none, 0, []⟩).set i x)[j]? = some y → ∀ b, y.b = some b → (j = i ∧ y = x) ∨ (j ≠ i ∧ j ≠ z ∧ L[j]? = some y) := by
    intro j y hy b hb
    by_cases hj : i = j
    · subst hj
      rw [List.getElem?_set] at hy
      split at hy
      · split at hy
        · exact .inl ⟨rfl, (Option.some.inj hy).symm⟩
        · cases hy
      · rename_i hn; exact absurd rfl hn
    · rw [List.getElem?_set_ne hj] at hy
      by_cases hk : z = j
      · subst hk
        rw [List.getElem?_set] at hy
        split at hy
        · split at hy
          · obtain rfl := Option.some.inj hy; cases hb
          · cases hy
        · rename_i hn; exact absurd rfl hn
      · rw [List.getElem?_set_ne hk] at hy
        exact .inr ⟨fun e => hj e.symm, fun e => hk e.symm, hy⟩
  refine h.less' ?_ ?_ ?_
  · intro y hy c hc
    obtain ⟨j, hj⟩ := List.mem_iff_getElem?.1 hy
    rcases hget j y hj c hc with ⟨_, rfl⟩ | ⟨_, _, h3⟩
    · exact List.mem_of_getElem? hz
    · exact List.mem_of_getElem? h3
  · have hd := nodup_pos.1 h.dis
    rw [nodup_pos]
    intro j k y y' b hjk hy hy' hb hb'
    rcases hget j y hy b hb with ⟨rfl, rfl⟩ | ⟨h1, h2, h3⟩ <;> rcases hget k y' hy' b hb' with ⟨e1, e2⟩ | ⟨g1, g2, g3⟩
    · exact hjk e1.symm
    · exact hd z k _ _ b (fun e => g2 e.symm) hz g3 hb hb'
    · subst e2; exact hd j z _ _ b h2 h3 hz hb hb'
    · exact hd j k _ _ b hjk h3 g3 hb hb'
  · intro p hp
    obtain ⟨y, hy, hpy⟩ := mem_frz.1 hp
    rcases List.mem_or_eq_of_mem_set hy with hy | rfl
    · exact frz_set_sub (y := ⟨none, 0, []⟩) fzs_none p (mem_frz.2 ⟨y, hy, hpy⟩)
    · exact mem_frz.2 ⟨_, List.mem_of_getElem? hz, hpy⟩
/-- an entry that stands for no block -/
theorem Mem.setN {w : World} (h : Mem w0 W L w) (i : Nat) (T : TypeId) (cs : List Value) (hT : Nat.beq T CLU = false) : Mem w0 W (L.set i ⟨none, T, cs⟩) w := by
  have hf : fzs ⟨none, T, cs⟩ = [] := fzs_T hT
  refine h.less' ?_ ?_ ?_
  · intro y hy c hc
    rcases List.mem_or_eq_of_mem_set hy with hy | rfl
    · exact hy
    · cases hc
  · have : (L.set i ⟨none, T, cs⟩).filterMap Blk.b = (L.set i ⟨none, 0, []⟩).filterMap Blk.b := by
      have e : L.set i ⟨none, T, cs⟩ = (L.set i ⟨none, 0, []⟩).set i ⟨none, T, cs⟩ := by rw [List.set_set]
      rw [e]
      by_cases hi : i < L.length
      · exact nodup_set (x := ⟨none, 0, []⟩) (by simp [hi]) rfl
      · rw [List.set_eq_of_length_le (by simp; omega)]
    rw [this]; exact h.dis.sublist (set_none_sub L i)
  · exact frz_set_sub hf
/-- behind a call that may have replaced the row: what it got was a row of the program's own -/
theorem Mem.ls3 {S : Type} {w : World} (h : Mem w0 W L w) (i q z : Nat) {T : TypeId} {enc : S → List Value} {o1 o2 o : Option Nat} {a1 a : Option Addr} {c1 c2 c n1 n2 k m : Nat} {sp1 sp2 sp : List Value} {xs1 xs2 xs : List S} {F : List (Option Addr × Nat × List S)}
    (hi : L[i]? = some ⟨o1, T, row enc xs1 sp1⟩) (hq : L[q]? = some ⟨o2, T, row enc xs2 sp2⟩) (hz : L[z]? = some ⟨o, T, row enc xs sp⟩) (hne : nd [i, q, z] = true)
    (l1 : LsB o1 a1 c1 sp1 n1 xs1 m F) (hn1 : xs1.length = n1) (hs2 : o2 ≠ none → n2 ≤ c2 ∧ sp2.length = (c2 - n2) * m) (ho2 : o2 = none → xs2 = [] ∧ c2 = 0) (hn2 : xs2.length = n2) (hn : xs.length = k)
    (hl : LsB o a c sp k xs m [(a1, c1, xs1), (o2.map fun b => ⟨b, 0, none⟩, c2, xs2)]) :
    ∃ o' sp', LsB o' a c sp' k xs m F ∧ Mem w0 W (((L.set i ⟨o', T, row enc xs sp'⟩).set q ⟨none, 0, []⟩).set z ⟨none, 0, []⟩) w := by
  have h1 : i ≠ q ∧ i ≠ z ∧ q ≠ z := by
    obtain ⟨g1, g2⟩ := nd_cons hne
    obtain ⟨g3, g4⟩ := nd_cons g2
    exact ⟨g1 q (by simp), g1 z (by simp), g3 z (by simp)⟩
  obtain ⟨hiq, hiz, hqz⟩ := h1
  have kk : ∀ {L : List Blk} {w : World} (j : Nat), Mem w0 W L w → Mem w0 W (L.set j ⟨none, 0, []⟩) w := fun j h => h.setN j 0 [] rfl
  rcases hl with hl | ⟨ho, hF⟩
  · refine ⟨o, sp, .inl hl, ?_⟩
    have := kk q (h.mv i z hz hiz)
    rwa [List.set_comm _ _ (Ne.symm hiz), List.set_comm _ _ (Ne.symm hqz)] at this
  · rcases List.mem_cons.1 hF with e | hF
    · simp only [Prod.mk.injEq] at e
      obtain ⟨rfl, rfl, rfl⟩ := e
      refine ⟨o1, sp1, by rw [← hn, hn1]; exact l1, ?_⟩
      have : L.set i ⟨o1, T, row enc xs sp1⟩ = L := by
        apply List.ext_getElem?
        intro j
        by_cases hj : i = j
        · subst hj; rw [hi, List.getElem?_set_self (List.getElem?_eq_some_iff.1 hi).1]
        · rw [List.getElem?_set_ne hj]
      rw [this]
      exact kk z (kk q h)
    · simp only [List.mem_singleton, Prod.mk.injEq] at hF
      obtain ⟨rfl, rfl, rfl⟩ := hF
      refine ⟨o2, sp2, by rw [← hn, hn2]; exact lsO hs2 ho2, ?_⟩
      have := kk z (h.mv i q hq hiq)
      rwa [List.set_comm _ _ (Ne.symm hiq)] at this
/-- the same; what it got was a row that came in, or none -/
theorem Mem.ls2 {S : Type} {w : World} (h : Mem w0 W L w) (i z : Nat) {T : TypeId} {enc : S → List Value} {o1 o : Option Nat} {a1 a a2 : Option Addr} {c1 c2 c n1 k m : Nat} {sp1 sp : List Value} {xs1 xs2 xs : List S} {F : List (Option Addr × Nat × List S)}
    (hi : L[i]? = some ⟨o1, T, row enc xs1 sp1⟩) (hz : L[z]? = some ⟨o, T, row enc xs sp⟩) (hne : nd [i, z] = true)
    (l1 : LsB o1 a1 c1 sp1 n1 xs1 m F) (hn1 : xs1.length = n1) (h2 : (a2, c2, xs2) ∈ F ∨ (a2 = none ∧ c2 = 0 ∧ xs2 = [])) (hn : xs.length = k)
    (hl : LsB o a c sp k xs m [(a1, c1, xs1), (a2, c2, xs2)]) :
    ∃ o' sp', LsB o' a c sp' k xs m F ∧ Mem w0 W ((L.set i ⟨o', T, row enc xs sp'⟩).set z ⟨none, 0, []⟩) w := by
  have hiz : i ≠ z := by
    obtain ⟨g1, g2⟩ := nd_cons hne
    exact g1 z (by simp)
  have kk : ∀ {L : List Blk} {w : World} (j : Nat), Mem w0 W L w → Mem w0 W (L.set j ⟨none, 0, []⟩) w := fun j h => h.setN j 0 [] rfl
  rcases hl with hl | ⟨rfl, hF⟩
  · refine ⟨o, sp, .inl hl, ?_⟩
    have := h.mv i z hz hiz
    rwa [List.set_comm _ _ (Ne.symm hiz)] at this
  · rcases List.mem_cons.1 hF with e | hF
    · simp only [Prod.mk.injEq] at e
      obtain ⟨rfl, rfl, rfl⟩ := e
      refine ⟨o1, sp1, by rw [← hn, hn1]; exact l1, ?_⟩
      have : L.set i ⟨o1, T, row enc xs sp1⟩ = L := by
        apply List.ext_getElem?
        intro j
        by_cases hj : i = j
        · subst hj; rw [hi, List.getElem?_set_self (List.getElem?_eq_some_iff.1 hi).1]
        · rw [List.getElem?_set_ne hj]
      rw [this]
      exact kk z h
    · simp only [List.mem_singleton, Prod.mk.injEq] at hF
      obtain ⟨rfl, rfl, rfl⟩ := hF
      have hm : Mem w0 W ((L.set i ⟨none, T, row enc xs sp⟩).set z ⟨none, 0, []⟩) w := by
        have := h.mv i z hz hiz
        rwa [List.set_comm _ _ (Ne.symm hiz)] at this
      refine ⟨none, sp, ?_, hm⟩
      rcases h2 with h2 | ⟨rfl, rfl, rfl⟩
      · exact .inr ⟨rfl, h2⟩
      · exact .inl ⟨rfl, fun e => absurd rfl e, fun _ => ⟨rfl, rfl⟩⟩
/-- the box gets a row that came in -/
theorem jk_lsN {K : Act → World → Prop} {S : Type} (i : Nat) (T : TypeId) (enc : S → List Value) (xs : List S) (h : JK n w0 W K E (L.set i ⟨none, T, row enc xs []⟩)) (hT : Nat.beq T CLU = false := by kernel_rfl) : JK n w0 W K E L :=
  fun a w hok => h a w (hok.mem' (hok.mem.setN i T _ hT))
/-- the box gets a row of the program's own -/
theorem jk_lsM {K : Act → World → Prop} (i z : Nat) (x : Blk) (h : JK n w0 W K E ((L.set z ⟨none, 0, []⟩).set i x)) (hz : L[z]? = some x := by kernel_rfl) (hiz : Nat.beq i z = false := by kernel_rfl) : JK n w0 W K E L :=
  fun a w hok => h a w (hok.mem' (hok.mem.mv i z hz (fun e => by rw [e] at hiz; simp at hiz)))
end loose
end Go.Proofs.YtolfkfjjifdmeaaGreat.Eng
