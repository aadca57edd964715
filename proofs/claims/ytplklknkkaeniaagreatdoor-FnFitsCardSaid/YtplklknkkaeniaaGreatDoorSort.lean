/- The library's sort of a row of structs, in the engine's words: out of the kit's contract of slices.SortFunc. -/
import Derived.Test.YtplklknkkaeniaaGreatDoorEng
import Derived.Shelf.SlSortCmp.NoneTotal
import Derived.Shelf.Lay
namespace Go.Proofs.YtplklknkkaeniaaGreatDoor.Eng
open Go Go.Shelf Go.RowKit Go.Lib Go.Sort Go.Proofs
set_option linter.unusedSimpArgs false
set_option linter.unusedVariables false
variable {P : Program} {ρ : Ren} {S : Type}

/-- what a comparison says, as a number -/
def cmpV (cmp : S → S → Option Int) (a b : S) : Int := (cmp a b).getD 0
section
variable [Inhabited S]
open Classical in
/-- the row as the sort leaves it, of a kind that has an element -/
noncomputable def sortC (cmp : S → S → Option Int) (xs : List S) : Option (List S) :=
  if (∀ a b, (cmp a b).isSome = true) ∧ SWO (ltOf (cmpV cmp)) ∧ xs.length < 4611686018427387904 then some (pdq (ltOf (cmpV cmp)) xs.toArray 0 xs.toArray.size (Lib.bitLen xs.toArray.size) true true).toList else none

theorem sortC_cond {cmp : S → S → Option Int} {xs r : List S} (h : sortC cmp xs = some r) : (∀ a b, (cmp a b).isSome = true) ∧ SWO (ltOf (cmpV cmp)) ∧ xs.length < 4611686018427387904 ∧ r = (pdq (ltOf (cmpV cmp)) xs.toArray 0 xs.toArray.size (Lib.bitLen xs.toArray.size) true true).toList := by
  unfold sortC at h
  split at h
  · rename_i hc; exact ⟨hc.1, hc.2.1, hc.2.2, (Option.some.inj h).symm⟩
  · cases h
theorem sortC_sorts {cmp : S → S → Option Int} {xs r : List S} (h : sortC cmp xs = some r) : r.Perm xs ∧ r.length = xs.length ∧ ∀ i j : Nat, i < j → (hj : j < r.length) → (hi : i < r.length) → ¬ cmpV cmp r[j] r[i] < 0 := by
  obtain ⟨h1, h2, h3, rfl⟩ := sortC_cond h
  have hp := pdq_sorts (ltOf (cmpV cmp)) h2 xs.toArray 0 xs.toArray.size (Lib.bitLen xs.toArray.size) true true (Nat.zero_le _) (Nat.le_refl _) (Or.inl rfl)
  generalize pdq (ltOf (cmpV cmp)) xs.toArray 0 xs.toArray.size (Lib.bitLen xs.toArray.size) true true = d at hp ⊢
  obtain ⟨⟨hs, _, hperm⟩, hso⟩ := hp
  have e1 : d.extract 0 xs.toArray.size = d := by rw [← hs]; simp
  have e2 : xs.toArray.extract 0 xs.toArray.size = xs.toArray := by simp
  rw [e1, e2] at hperm
  refine ⟨hperm, hperm.length_eq, fun i j hij hj hi => ?_⟩
  have hjl : j < d.size := by simpa using hj
  have := hso i j (Nat.zero_le _) hij (by rw [← hs]; exact hjl)
  rw [getElem!_pos d j hjl, getElem!_pos d i (by omega)] at this
  unfold ltOf at this
  simpa using this
theorem sortC_some {cmp : S → S → Option Int} {xs : List S} (h1 : ∀ a b, (cmp a b).isSome = true) (h2 : SWO (ltOf (cmpV cmp))) (h3 : xs.length < 4611686018427387904) : ∃ r, sortC cmp xs = some r := by
  unfold sortC
  rw [if_pos ⟨h1, h2, h3⟩]
  exact ⟨_, rfl⟩

theorem flatK_eq (enc : S → List Value) (k : Nat) (hk : ∀ x, (enc x).length = k) (r : List S) : flatK enc k r.toArray = (r.flatMap enc).toArray := by
  apply Array.ext_getElem?
  intro j
  have hl := flatMap_len hk r
  by_cases hj : j < r.length * k
  · have hk0 : 0 < k := by rcases Nat.eq_zero_or_pos k with h | h; rw [h] at hj; omega; exact h
    have hq : j / k < r.length := Nat.div_lt_of_lt_mul (by rw [Nat.mul_comm]; exact hj)
    have hm : j % k < k := Nat.mod_lt _ hk0
    have h1 : (flatK enc k r.toArray)[j]? = some ((enc r[j / k])[j % k]'(by rw [hk]; exact hm)) := by
      rw [Array.getElem?_eq_getElem (by simp; exact hj)]
      have := get_flatK enc k r.toArray j (by simpa using hj)
      rw [getElem!_pos _ j (by simp; exact hj)] at this
      rw [this, getElem!_pos r.toArray (j / k) (by simpa using hq)]
      congr 1
      have e : r.toArray[j / k]'(by simpa using hq) = r[j / k] := by simp
      rw [e, getElem!_pos _ (j % k) (by rw [hk]; exact hm)]
    have h2 := flatMap_get hk r (j / k) r[j / k] (List.getElem?_eq_getElem hq) (j % k) ((enc r[j / k])[j % k]'(by rw [hk]; exact hm)) (List.getElem?_eq_getElem _)
    have h3 : j / k * k + j % k = j := by rw [Nat.mul_comm]; exact Nat.div_add_mod j k
    rw [h3] at h2
    rw [h1, List.getElem?_toArray, h2]
  · rw [Array.getElem?_eq_none (by simp; omega), List.getElem?_toArray, List.getElem?_eq_none (by omega)]
theorem put_flat (enc : S → List Value) (k : Nat) (hk : ∀ x, (enc x).length = k) (xs r : List S) (sp : List Value) (hl : r.length = xs.length) :
    putCells (fun v : Value => v) 0 (flatK enc k r.toArray) (row enc xs sp).toArray = (row enc r sp).toArray := by
  rw [flatK_eq enc k hk]
  have h1 := flatMap_len hk xs
  have h2 := flatMap_len hk r
  have h3 : (r.flatMap enc).length = (xs.flatMap enc).length := by rw [h1, h2, hl]
  apply Array.ext_getElem?
  intro j
  unfold putCells row
  simp only [Array.getElem?_mapIdx, List.getElem?_toArray, List.size_toArray, Nat.zero_le, true_and, Nat.zero_add, Nat.sub_zero]
  by_cases hj : j < (r.flatMap enc).length
  · rw [List.getElem?_append_left (by omega), List.getElem?_append_left hj, List.getElem?_eq_getElem (by omega), List.getElem?_eq_getElem hj]
    simp only [Option.map_some, if_pos hj]
    rw [getElem!_pos (r.flatMap enc).toArray j (by simpa using hj)]
    simp
  · rw [List.getElem?_append_right (by omega), List.getElem?_append_right (by omega), h3]
    cases sp[j - (xs.flatMap enc).length]? with
    | none => rfl
    | some v => simp only [Option.map_some]; rw [if_neg (by omega)]
theorem mem_grow [dsW : DrwS] (hS : dsW.S) {w w' : World} (h : Mem w [] [] w') : ∃ q os', w' = grow (w.drewN q) os' := by
  refine ⟨w'.drawn - w.drawn, w'.heap.extract w.heap.size w'.heap.size, ?_⟩
  have hh : w'.heap = w.heap ++ w'.heap.extract w.heap.size w'.heap.size := by
    apply Array.ext_getElem?
    intro j
    by_cases hj : j < w.heap.size
    · rw [Array.getElem?_append_left hj]; exact h.old j hj (by simp)
    · rw [Array.getElem?_append_right (by omega), Array.getElem?_extract]
      by_cases hj2 : j < w'.heap.size
      · rw [if_pos (by have := h.size; omega)]; congr 1; omega
      · rw [if_neg (by have := h.size; omega), Array.getElem?_eq_none (by omega)]
  have hd : w.drawn ≤ w'.drawn := h.drw hS
  have e1 := h.os; have e2 := h.tape; have e3 := h.output
  cases w' with
  | mk heap' tape' drawn' os' output' =>
    simp only at hh hd e1 e2 e3
    subst e1 e2 e3
    unfold grow World.drewN
    simp only
    rw [← hh]
    congr 1
    omega

/-- slices.SortFunc, of a row that came in -/
theorem sortC_calls [dsW : DrwS] (L : SlLaysF0.n6 P ρ) (T : TypeId) (k : Nat) (aE : ∀ w, (isAgg (ρ.t 24)).run P w = .ok true w) (zE : ∀ w, (Go.sizeOf (ρ.t 24)).run P w = .ok k w) (enc : S → List Value) (hk : ∀ x, (enc x).length = k) (h1 : ∀ x, ∀ v ∈ enc x, v.oneCell' = true)
    (cmp : S → S → Option Int) (g : Nat) (eg : ∀ args w, (callFunc g args).run P w = .ok (.enter g args) w)
    (hc : ∀ x y r w, cmp x y = some r → Calls P g #[.agg (enc x).toArray, .agg (enc y).toArray] w fun e w' => ∃ v, e = .returned v ∧ (v = .int .i64 r ∧ @Mem ⟨True⟩ w [] [] w'))
    (xs : List S) (w : World) (r : List S) (o : Option Nat) (n c : Nat) (sp : List Value) (hn : xs.length = n) (hs : o ≠ none → n ≤ c ∧ sp.length = (c - n) * k) (ho : o = none → xs = [] ∧ c = 0) (hm : Mem w (bs [o]) [⟨o, T, row enc xs sp⟩] w) (h : sortC cmp xs = some r) :
    Calls P (ρ.f 6) #[.slice (o.map fun b => ⟨b, 0, none⟩) n c, .func (.func g) #[] #[]] w fun e w' => ∃ v, e = .returned v ∧ (r.length = n ∧ (o = none → r = [] ∧ c = 0) ∧ v = .tuple #[] ∧ Mem w (bs [o]) [⟨o, T, row enc r sp⟩] w') := by
  obtain ⟨hp, hlen, _⟩ := sortC_sorts h
  obtain ⟨c1, c2, c3, hr⟩ := sortC_cond h
  subst hn
  cases o with
  | none =>
    obtain ⟨rfl, rfl⟩ := ho rfl
    have : r = [] := List.length_eq_zero_iff.1 (by simpa using hlen)
    subst this
    refine (AnyF.slices_SortFunc_none L none 0 (.func (.func g) #[] #[]) w).mono ?_
    rintro e w' ⟨rfl, rfl⟩
    exact ⟨_, rfl, rfl, fun _ => ⟨rfl, rfl⟩, rfl, hm⟩
  | some b =>
    have hb : w.heap[b]? = some (.cells (row enc xs sp).toArray T (0, 0)) := hm.own ⟨some b, T, row enc xs sp⟩ (by simp) b rfl
    have hbl : b < w.heap.size := heap_lt hb
    have hfl := flatMap_len hk xs
    have hfx := flatK_eq enc k hk xs
    have hH : HoldsK enc k w b 0 xs.toArray := by
      intro j hj
      rw [size_flatK] at hj
      simp only [List.size_toArray] at hj
      have hj2 : j < (xs.flatMap enc).length := by omega
      refine ⟨?_, ?_⟩
      · rw [hfx, Nat.zero_add, hm.cell (x := ⟨some b, T, row enc xs sp⟩) (by simp) rfl j ((xs.flatMap enc)[j]) (by unfold row; rw [List.getElem?_append_left hj2, List.getElem?_eq_getElem hj2])]
        rw [getElem!_pos _ j (by simpa using hj2)]
        simp
      · simp [World.frozen?, hb]
    have hcmp : CmpLays P g #[] enc k (cmpV cmp) b 0 xs.toArray.size w := by
      intro m os dk _ x y
      obtain ⟨z, hz⟩ := Option.isSome_iff_exists.1 (c1 x y)
      have e : cmpV cmp x y = z := by unfold cmpV; rw [hz]; rfl
      rw [e]
      refine (hc x y z _ hz).mono ?_
      rintro e w' ⟨v, rfl, rfl, hmem⟩
      exact ⟨rfl, @mem_grow ⟨True⟩ trivial _ _ hmem⟩
    have := AnyQ.slices_SortFunc_eq L k aE zE enc hk h1 (cmpV cmp) c2 g #[] b 0 c xs.toArray w eg hcmp hH hbl (by simpa using c3)
    simp only [List.size_toArray] at this hr
    refine this.mono ?_
    rintro e w' ⟨rfl, m, os, rfl⟩
    refine ⟨_, rfl, hlen, fun e => (nomatch e), rfl, ?_⟩
    have er : (pdq (ltOf (cmpV cmp)) xs.toArray 0 xs.length (Lib.bitLen xs.length) true true) = r.toArray := by rw [hr]
    rw [er]
    have hpf := put_flat enc k hk xs r sp hlen
    unfold sortWorldK putRowK putRow mapBlock grow Sort.ahead
    refine ⟨rfl, rfl, rfl, Drw.of_le (by simp), by simp <;> omega, ?_, ?_, by simp, ?_⟩
    · intro b' hb' hne
      have hbb : b' ≠ b := fun e => hne (by rw [e]; simp [bs])
      simp only
      rw [Array.getElem?_append_left (by simpa using hb'), Array.getElem?_modify, if_neg (fun e => hbb e.symm)]
    · intro x hx b' hb'
      simp only [List.mem_singleton] at hx
      subst hx
      cases hb'
      simp only
      rw [Array.getElem?_append_left (by simpa using hbl), Array.getElem?_modify, if_pos rfl, hb]
      exact congrArg (fun c => some (Obj.cells c T (0, 0))) hpf
    · intro x hx b' hb'
      simp only [List.mem_singleton] at hx
      subst hx
      cases hb'
      exact .inl (by simp [bs])
end
/-- the row as the sort leaves it -/
noncomputable def sortF (cmp : S → S → Option Int) : List S → Option (List S)
  | [] => some []
  | x :: t => @sortC S ⟨x⟩ cmp (x :: t)
theorem sortF_sorts {cmp : S → S → Option Int} {xs r : List S} (h : sortF cmp xs = some r) : r.Perm xs ∧ r.length = xs.length ∧ ∀ i j : Nat, i < j → (hj : j < r.length) → (hi : i < r.length) → ¬ cmpV cmp r[j] r[i] < 0 := by
  cases xs with
  | nil => cases h; exact ⟨List.Perm.refl _, rfl, fun i j _ hj => absurd hj (by simp)⟩
  | cons x t => exact @sortC_sorts S ⟨x⟩ cmp _ _ h
theorem sortF_some {cmp : S → S → Option Int} {xs : List S} (h1 : ∀ a b, (cmp a b).isSome = true) (h2 : SWO (ltOf (cmpV cmp))) (h3 : xs.length < 4611686018427387904) : ∃ r, sortF cmp xs = some r := by
  cases xs with
  | nil => exact ⟨_, rfl⟩
  | cons x t => exact @sortC_some S ⟨x⟩ cmp _ h1 h2 h3
/-- slices.SortFunc, of a row that came in -/
theorem sort_calls [dsW : DrwS] (L : SlLaysF0.n6 P ρ) (k : Nat) (aE : ∀ w, (isAgg (ρ.t 24)).run P w = .ok true w) (zE : ∀ w, (Go.sizeOf (ρ.t 24)).run P w = .ok k w) (enc : S → List Value) (hk : ∀ x, (enc x).length = k) (h1 : ∀ x, ∀ v ∈ enc x, v.oneCell' = true)
    (cmp : S → S → Option Int) (g : Nat) (eg : ∀ args w, (callFunc g args).run P w = .ok (.enter g args) w)
    (hc : ∀ x y r w, cmp x y = some r → Calls P g #[.agg (enc x).toArray, .agg (enc y).toArray] w fun e w' => ∃ v, e = .returned v ∧ (v = .int .i64 r ∧ @Mem ⟨True⟩ w [] [] w'))
    (T : TypeId) (xs : List S) (w : World) (r : List S) (o : Option Nat) (n c : Nat) (sp : List Value) (hn : xs.length = n) (hs : o ≠ none → n ≤ c ∧ sp.length = (c - n) * k) (ho : o = none → xs = [] ∧ c = 0) (hm : Mem w (bs [o]) [⟨o, T, row enc xs sp⟩] w) (h : sortF cmp xs = some r) :
    Calls P (ρ.f 6) #[.slice (o.map fun b => ⟨b, 0, none⟩) n c, .func (.func g) #[] #[]] w fun e w' => ∃ v, e = .returned v ∧ (r.length = n ∧ (o = none → r = [] ∧ c = 0) ∧ v = .tuple #[] ∧ Mem w (bs [o]) [⟨o, T, row enc r sp⟩] w') := by
  cases xs with
  | nil =>
    cases h
    subst hn
    refine (AnyF.slices_SortFunc_none L (o.map fun b => ⟨b, 0, none⟩) c (.func (.func g) #[] #[]) w).mono ?_
    rintro e w' ⟨rfl, rfl⟩
    exact ⟨_, rfl, rfl, ho, rfl, hm⟩
  | cons x t => exact @sortC_calls P ρ S ⟨x⟩ dsW L T k aE zE enc hk h1 cmp g eg hc _ w r o n c sp hn hs ho hm h
end Go.Proofs.YtplklknkkaeniaaGreatDoor.Eng
