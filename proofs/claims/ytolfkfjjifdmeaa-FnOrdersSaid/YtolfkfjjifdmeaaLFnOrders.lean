/- The law of orders of drums: its plain function answers true at every input. -/
import Derived.Test.YtolfkfjjifdmeaaM0
import Derived.Test.YtolfkfjjifdmeaaM1
import Derived.Test.YtolfkfjjifdmeaaM2
import Derived.Test.YtolfkfjjifdmeaaPFrame
import Derived.Test.YtolfkfjjifdmeaaPDrum
import Derived.Test.YtolfkfjjifdmeaaPCodes
import Derived.Test.YtolfkfjjifdmeaaPPut
import Derived.Test.YtolfkfjjifdmeaaPBits
import Derived.Test.YtolfkfjjifdmeaaPCost
import Derived.Test.YtolfkfjjifdmeaaPDTab
import Derived.Test.YtolfkfjjifdmeaaPStab
import Derived.Test.YtolfkfjjifdmeaaPPairs
import Derived.Test.YtolfkfjjifdmeaaPJoined
import Derived.Test.YtolfkfjjifdmeaaPKruskal
import Derived.Test.YtolfkfjjifdmeaaPComps
import Derived.Test.YtolfkfjjifdmeaaPMst
import Derived.Test.YtolfkfjjifdmeaaPKPath
import Derived.Test.YtolfkfjjifdmeaaPChkTree
import Derived.Test.YtolfkfjjifdmeaaPMarkA
import Derived.Test.YtolfkfjjifdmeaaPChkImpl
import Derived.Test.YtolfkfjjifdmeaaPFit
import Derived.Test.YtolfkfjjifdmeaaPDraw
import Derived.Test.YtolfkfjjifdmeaaPDrawDrum
import Derived.Test.YtolfkfjjifdmeaaPBPath
import Derived.Test.YtolfkfjjifdmeaaPOrdImpl
import Derived.Test.YtolfkfjjifdmeaaPOrdSpec
import Derived.Test.YtolfkfjjifdmeaaPDTabC
import Derived.Test.YtolfkfjjifdmeaaPBestOrd
import Derived.Test.YtolfkfjjifdmeaaPOrdLaw
import Derived.Test.YtolfkfjjifdmeaaPDrawOrd
import Derived.Test.YtolfkfjjifdmeaaPOrdTree
import Derived.Test.YtolfkfjjifdmeaaPChkTrue
import Derived.Test.YtolfkfjjifdmeaaPNear
import Derived.Test.YtolfkfjjifdmeaaPure
import Derived.Test.YtolfkfjjifdmeaaSFnOrders
namespace Go.Proofs.Ytolfkfjjifdmeaa
open Eng
set_option linter.unusedVariables false
set_option linter.unusedSimpArgs false

theorem a2At_is {more : List Int} (hc : ∀ y ∈ more, 0 ≤ y ∧ y ≤ 255) {n : Nat} (h1 : 1 ≤ n) (h2 : n ≤ 1000000) : ∃ k : Nat, k < n ∧ laws_a2At more 0 (n : Int) = some (k : Int) := by
  simp only [laws_a2At]
  by_cases c : more.length = 0
  · refine ⟨0, by omega, ?_⟩
    rw [if_pos (by simp [c])]; rfl
  · have h0 : 0 < more.length := by omega
    have hx := hc _ (List.getElem_mem h0)
    have hix : ix more 0 = some more[0] := ix_lt h0
    obtain ⟨x, hxx⟩ : ∃ x : Nat, more[0] = (x : Int) := ⟨more[0].toNat, by omega⟩
    rw [hxx] at hix hx
    refine ⟨x % n, Nat.mod_lt _ (by omega), ?_⟩
    rw [if_neg (by simp only [Bool.or_eq_true, decide_eq_true_eq]; omega)]
    simp only [hix, Option.bind_some]
    rw [if_pos (by omega), w64_in (by omega) (by omega), tmod_nat]
theorem same_refl (t : List Int) (h : t.length ≤ 1000000) : spec_A2Same t t = some true := by
  have h0 : loop (spec_l00Same.l_3 t t) 0 = some (.inr ()) := loop_seq (f := spec_l00Same.l_3 t t) t.length (fun k => (k : Int)) (.inr ()) (fun k hk => by
    simp only [spec_l00Same.l_3, ix_lt hk, Option.bind_some]
    rw [if_pos (by simpa using hk), if_neg (by simp), w64_in (n := (k : Int) + 1) (by omega) (by omega)]
    simp) (by simp [spec_l00Same.l_3])
  simp [spec_A2Same, spec_l00Same, h0, spec_l00Same.k_1]
theorem sameTable_refl (t : List (List Int)) (h : t.length ≤ 1000000) (hr : ∀ r ∈ t, r.length ≤ 1000000) : spec_A2SameTable t t = some true := by
  have h0 : loop (spec_A2SameTable.l_3 t t) 0 = some (.inr ()) := loop_seq (f := spec_A2SameTable.l_3 t t) t.length (fun k => (k : Int)) (.inr ()) (fun k hk => by
    have hs := same_refl t[k] (hr _ (List.getElem_mem hk))
    simp only [spec_A2Same, Option.bind_fun_some] at hs
    simp only [spec_A2SameTable.l_3, ix_lt hk, Option.bind_some, hs]
    rw [if_pos (by simpa using hk), if_neg (by simp), w64_in (n := (k : Int) + 1) (by omega) (by omega)]
    simp) (by simp [spec_A2SameTable.l_3])
  simp [spec_A2SameTable, h0, spec_A2SameTable.k_1]
theorem samePairs_refl (t : List (Arr 2 Int)) (h : t.length ≤ 1000000) : spec_A2SamePairs t t = some true := by
  have h0 : loop (spec_A2SamePairs.l_3 t t) 0 = some (.inr ()) := loop_seq (f := spec_A2SamePairs.l_3 t t) t.length (fun k => (k : Int)) (.inr ()) (fun k hk => by
    simp only [spec_A2SamePairs.l_3, ix_lt hk, Option.bind_some]
    rw [if_pos (by simpa using hk), if_neg (by simp), w64_in (n := (k : Int) + 1) (by omega) (by omega)]
    simp) (by simp [spec_A2SamePairs.l_3])
  simp [spec_A2SamePairs, h0, spec_A2SamePairs.k_1]
theorem costP_last {c : Nat → Nat → Nat} {tl : Nat → Nat} {x b : Nat} {l o' : List Nat} (h : x :: l = o' ++ [b]) : costP c tl x l = costO c (x :: l) + tl b := by
  rcases List.eq_nil_or_concat l with rfl | ⟨l', b', rfl⟩
  · cases o' with
    | nil => simp at h; subst h; simp [costP, costO]
    | cons y o' => simp at h
  · have hb : b' = b := by
      have h2 : (x :: l') ++ [b'] = o' ++ [b] := by simpa using h
      have := (List.append_inj' h2 rfl).2
      simpa using this
    subst hb
    rw [List.concat_eq_append, costP_snoc]
theorem orderCost_val {f : GFrame} {ds : List (Arr 96 Int)} (hi : FIn f) (hl : f.fHammers.length ≤ 9223372036854775807) (hd : ∀ d ∈ ds, DIn d) (hv : listV f ds = 0) (hT : TabC (tabD ds) ds.length (cstD ds)) {o : List Nat} (ho : IsO ds.length o) :
    impl_OrderCost f ds (cst o) = some (((costO (cstD ds) o : Nat) : Int), 0) ∧ ∀ q : Int, impl_CheckOrder f ds (cst o) q = some (decide (((costO (cstD ds) o : Nat) : Int) ≤ q), 0) := by
  have h8 := hT.n8
  have hds : ds.length ≤ 4294967296 := by omega
  have hol := ho.len
  have hc := orderCost_is hT o (fun x hx => (ho.2 x).1 hx) (by omega)
  have hio := isOrder_is ho (show ds.length ≤ 1000 by omega)
  constructor
  · simp only [impl_OrderCost, listCode_is f hi hl ds (by omega) hd, hv, hio, impl_unless, if_true, Option.bind_some, firstOf2, costs_is ds hds hd, hc]
    simp
  · intro q
    simp only [impl_CheckOrder, listCode_is f hi hl ds (by omega) hd, hv, hio, if_true, Option.bind_some, costs_is ds hds hd, hc]
    simp
theorem pairs_loop {ds : List (Arr 96 Int)} {K : List (Arr 2 Int)} (hT : TabC (tabD ds) ds.length (cstD ds)) (hK : ∀ e ∈ K, IsP ds.length e) (hKl : K.length ≤ 8) (s : Int) (z : Int) :
    loop (laws_FnOrders.l_48 ds (tabD ds, z) (K, s, z)) (0, 0) = some (.inr (((wS (cstD ds) K : Nat) : Int))) := by
  have h8 := hT.n8
  have hbd : ∀ A : List (Arr 2 Int), wS (cstD ds) A ≤ A.length * 1000000 := wS_le hT.bd
  have := loop_seq (f := laws_FnOrders.l_48 ds (tabD ds, z) (K, s, z)) K.length (fun k => (((wS (cstD ds) (K.take k) : Nat) : Int), (k : Int))) (.inr (((wS (cstD ds) K : Nat) : Int))) (fun k hk => by
    obtain ⟨i, j, e, hij, hj⟩ := hK _ (List.getElem_mem hk)
    obtain ⟨r, r1, r2⟩ := hT.at_ i j (by omega) hj
    have hw : w64 ((k : Int) + 1) = ((k + 1 : Nat) : Int) := by rw [w64_in (by omega) (by omega)]; omega
    have hs : wS (cstD ds) (K.take (k + 1)) = wS (cstD ds) (K.take k) + cstD ds i j := by
      rw [List.take_succ_eq_append_getElem hk, wS_snoc, e]
      unfold cwP
      rw [pa0_is, pa1_is]
    have hb := hbd (K.take (k + 1))
    have hb2 : (K.take (k + 1)).length ≤ 8 := by rw [List.length_take]; omega
    have hb3 : (K.take (k + 1)).length * 1000000 ≤ 8 * 1000000 := Nat.mul_le_mul_right _ hb2
    have hx : ix K (k : Int) = some (prA i j) := by rw [ix_lt hk, e]
    simp only [laws_FnOrders.l_48, hx, prA_0, prA_1, Option.bind_some, laws_FnOrders.k_51, r1, r2, hw]
    rw [if_pos (by simpa using hk), if_neg (by simp), if_neg (by simp; omega), if_neg (by simp; omega), hs, w64_in (by omega) (by omega)]
    simp) (by simp [laws_FnOrders.l_48])
  simpa [wS] using this
theorem ring_loop {ds : List (Arr 96 Int)} (hT : TabC (tabD ds) ds.length (cstD ds)) {o : List Nat} (ho : IsO ds.length o) {x0 : Nat} (hx : x0 ≤ 1000000) (s z : Int) :
    loop (laws_FnOrders.l_40 ds (tabD ds, z) (cst o, s, z)) ((x0 : Int), 1) = some (((x0 + costO (cstD ds) o : Nat) : Int)) := by
  have h8 := hT.n8; have h1 := hT.n1
  have hol := ho.len
  have hb := fun (o : List Nat) => costO_le (c := cstD ds) hT.bd o
  have := loop_seq (f := laws_FnOrders.l_40 ds (tabD ds, z) (cst o, s, z)) (o.length - 1) (fun k => (((x0 + costO (cstD ds) (o.take (k + 1)) : Nat) : Int), ((k + 1 : Nat) : Int))) (((x0 + costO (cstD ds) o : Nat) : Int)) (fun k hk => by
    have hk1 : k + 1 < o.length := by omega
    have e1 : w64 (((k + 1 : Nat) : Int) - 1) = (k : Int) := by rw [w64_in (by omega) (by omega)]; omega
    obtain ⟨r, r1, r2⟩ := hT.at_ o[k] o[k + 1] ((ho.2 _).1 (List.getElem_mem _)) ((ho.2 _).1 (List.getElem_mem _))
    have hs := costO_take (cstD ds) o (k := k + 1) (by omega) hk1
    have hle := hb (o.take (k + 1 + 1))
    have hll : (o.take (k + 1 + 1)).length ≤ 8 := by rw [List.length_take]; omega
    have hm : 1000000 * (o.take (k + 1 + 1)).length ≤ 1000000 * 8 := Nat.mul_le_mul_left _ hll
    simp only [Nat.add_sub_cancel] at hs
    simp only [laws_FnOrders.l_40, e1, ix_cst (show k < o.length by omega), ix_cst hk1, r1, r2, Option.bind_some]
    rw [if_pos (by rw [decide_eq_true_eq]; omega), hs, w64_in (n := _ + _) (by omega) (by omega), w64_in (n := ((k + 1 : Nat) : Int) + 1) (by omega) (by omega)]
    congr 3
    omega) (by
    simp only [laws_FnOrders.l_40]
    rw [if_neg (by rw [decide_eq_true_eq]; omega), show o.length - 1 + 1 = o.length by omega, List.take_length])
  have e : costO (cstD ds) (o.take 1) = 0 := by
    cases o with
    | nil => rfl
    | cons x o => simp [costO]
  simpa [e] using this
theorem snoc_of {n : Nat} (hn : 1 ≤ n) (h8 : n ≤ 8) {o : List Nat} (h : IsO n o) : ∃ o' b, o = o' ++ [b] ∧ b < n ∧ ix (cst o) (w64 ((n : Int) - 1)) = some (b : Int) := by
  have hl := h.len
  rcases List.eq_nil_or_concat o with rfl | ⟨o', b, rfl⟩
  · simp at hl; omega
  · rw [List.concat_eq_append] at h hl ⊢
    refine ⟨o', b, rfl, (h.2 b).1 (by simp), ?_⟩
    have hlen : (o' ++ [b]).length = o'.length + 1 := by simp
    rw [w64_in (by omega) (by omega), show ((n : Int) - 1) = (o'.length : Int) by omega, ix_cst (by omega)]
    simp
theorem FnOrders_ok (code0 more1 : List Int) (o0 : (code0.length ≤ 9223372036854775807 ∧ ∀ y ∈ code0, (0 ≤ y ∧ y ≤ 255))) (o1 : (more1.length ≤ 9223372036854775807 ∧ ∀ y ∈ more1, (0 ≤ y ∧ y ≤ 255))) : laws_FnOrders code0 more1 = some true := by
  simp only [laws_FnOrders, laws_a2Long, Option.bind_some]
  cases hlong : (decide ((code0.length : Int) > 3000)) || (decide ((more1.length : Int) > 3000)) with
  | true => rfl
  | false =>
    obtain ⟨f, e1, hf⟩ := a2Frame_is code0 o0.2
    obtain ⟨ds, e2, hdl, hdd⟩ := a2Drums_is hf more1 o1.2
    have hh1 := hf.h1; have hs0 := hf.s0; have hs1 := hf.s1
    have hi : FIn f := ⟨by omega, fun y hy => by have := hf.hp y hy; omega⟩
    have hl : f.fHammers.length ≤ 9223372036854775807 := by omega
    have hds : ds.length ≤ 4294967296 := by omega
    have hd : ∀ d ∈ ds, DIn d := fun d h => (hdd d h).1
    have hv : listV f ds = 0 := by
      unfold listV
      rw [if_pos ⟨frameB_of hf, List.all_eq_true.2 fun d h => (hdd d h).2⟩, if_pos (by omega)]
    have hct : impl_CostTable f ds = some (tabD ds, 0) := by simp [impl_CostTable, listCode_is f hi hl ds (by omega) hd, hv, costs_is ds hds hd]
    have hcs : spec_CostTable f ds = some (tabD ds, 0) := by simp [spec_CostTable, l05Asked_is f hi hl ds (by omega) hd, hv, l05Table_is ds hds hd]
    have hst : spec_A2SameTable (tabD ds) (tabD ds) = some true := sameTable_refl _ (by simp [tabD]; omega) (by
      intro r hr
      simp only [tabD, List.mem_map] at hr
      obtain ⟨a, _, rfl⟩ := hr
      simp; omega)
    obtain ⟨out, sum, code, b1, b2, b3, b4, b5⟩ := bestOrder_same f ds (-1) hi hl hds hd
    obtain ⟨ring, long, code2, c1, c2, c3, c4, c5⟩ := bestCircle_same f ds hi hl hds hd
    have hcode : code2 = code := by rw [← c4, ← b4]
    subst hcode
    by_cases hn : ds.length = 0
    · have hc6 : startF f ds (-1) = 6 := by
        unfold startF
        rw [if_neg (by simp [hv]), if_neg (by simp; omega), if_pos hn]
      rw [hc6] at b4
      subst b4
      have t1 : impl_TreeOf f ds = some ([], 0, 6) := by simp [impl_TreeOf, startCodeF_is f hi hl ds hds hd, hc6]
      have t2 : spec_TreeOf f ds = some ([], 0, 6) := by simp [spec_TreeOf, l05FirstF_is f hi hl ds hds hd, hc6]
      simp only [e1, e2, hct, hcs, b1, b2, c1, c2, t1, t2, Option.bind_some, bne_self_eq_false, Bool.or_self, Bool.false_eq_true, if_false, hst, Bool.not_true, same_refl out (by omega), same_refl ring (by omega), samePairs_refl [] (by simp), Bool.or_false, laws_FnOrders.k_13]
      rw [if_pos (by simp [hn])]
      rfl
    · have h1 : 1 ≤ ds.length := by omega
      have h8 : ds.length ≤ 8 := by omega
      have hT := tabC_is h1 h8
      have hTb := tabD_tbc h1 h8
      have hc0 : startF f ds (-1) = 0 := by
        unfold startF
        rw [if_neg (by simp [hv]), if_neg (by simp; omega), if_neg hn]
      rw [hc0] at b4
      subst b4
      obtain ⟨x, x1, x2, x3, x4⟩ := best_all (cstD ds) h1
      have b5 := b5 rfl
      rw [if_pos (by omega), x1] at b5
      obtain ⟨rfl, rfl⟩ := Prod.mk.inj b5
      obtain ⟨few, ord⟩ := x
      simp only at x2 x3 x4
      have hE2 : enc2 (some (few, ord)) = cst ord := rfl
      have hE1 : enc1 (some (few, ord)) = (few : Int) := rfl
      rw [hE2] at b1 b2 b3
      rw [hE1] at b1 b2
      have c5 := c5 rfl
      obtain ⟨rr, rr1, rr2, rr3⟩ := from_perm (cstD ds) (fun i => cstD ds i 0) (show 0 < ds.length by omega)
      obtain ⟨rfl, rfl⟩ := Prod.mk.inj c5
      generalize hL : fromV (cstD ds) (fun i => cstD ds i 0) ds.length 0 = L at *
      obtain ⟨lg, rg⟩ := L
      simp only at rr1 rr3
      subst rr1
      have hF2 : enc2 (some (lg, 0 :: rr)) = cst (0 :: rr) := rfl
      have hF1 : enc1 (some (lg, 0 :: rr)) = (lg : Int) := rfl
      rw [hF2] at c1 c2 c3
      rw [hF1] at c1 c2
      -- the tree
      obtain ⟨K, k1, k2, k3, k4, k5⟩ := specTree_is hTb h1
      obtain ⟨Y, g, K', sK, y1, _, _, _, _, y2, y3⟩ := tree_is hTb h1 ds rfl
      rw [k1] at y2
      obtain ⟨rfl, rfl⟩ := Prod.mk.inj (Option.some.inj y2)
      have t1 : impl_TreeOf f ds = some (K, ((wS (cstD ds) K : Nat) : Int), 0) := by
        simp only [impl_TreeOf, startCodeF_is f hi hl ds hds hd, hc0, Option.bind_some, costs_is ds hds hd, y1, y3, impl_TreeOf.k_6]
        rw [if_neg (by simp)]
      have t2 : spec_TreeOf f ds = some (K, ((wS (cstD ds) K : Nat) : Int), 0) := by
        simp only [spec_TreeOf, l05FirstF_is f hi hl ds hds hd, hc0, Option.bind_some, l05Table_is ds hds hd, k1]
        rw [if_neg (by simp)]
      have hck := check_true f ds K hi hl hd hv h8 k5 k2 k3 k4
      have hKl : K.length ≤ 8 := by omega
      have htle := tree_le (cstD_comm ds) hT.bd k4 k2 k3 k5 x2
      -- some order, and one from some drum on
      obtain ⟨o2, d1, d2⟩ := a2Order_is code0 o0.2 h1 h8
      obtain ⟨oc1, _⟩ := orderCost_val hi hl hd hv hT d2
      obtain ⟨ow1, ow2⟩ := orderCost_val hi hl hd hv hT x2
      obtain ⟨a, ha, hat⟩ := a2At_is o1.2 h1 (by omega)
      have hca : startF f ds (a : Int) = 0 := by
        unfold startF
        rw [if_neg (by simp [hv]), if_neg (by simp; omega), if_neg hn]
      obtain ⟨fo, fs, fc, f1, f2, f3, f4, f5⟩ := bestOrder_same f ds (a : Int) hi hl hds hd
      rw [hca] at f4
      subst f4
      have f5 := f5 rfl
      rw [if_neg (by omega), Int.toNat_natCast] at f5
      obtain ⟨fr, fr1, fr2, fr3⟩ := from_perm (cstD ds) (fun _ => 0) ha
      obtain ⟨rfl, rfl⟩ := Prod.mk.inj f5
      have hfl := fun (r : List Nat) (h : IsO ds.length (a :: r)) => from_least (cstD ds) (fun _ => 0) h
      generalize hG : fromV (cstD ds) (fun _ => 0) ds.length a = G at *
      obtain ⟨fg, fp⟩ := G
      simp only at fr1 fr3 hfl
      subst fr1
      have hG2 : enc2 (some (fg, a :: fr)) = cst (a :: fr) := rfl
      have hG1 : enc1 (some (fg, a :: fr)) = (fg : Int) := rfl
      rw [hG2] at f1 f2 f3
      rw [hG1] at f1 f2
      obtain ⟨nr, n1, n2, n3⟩ := nearOrd_same f ds (a := a) hi hl hd hca
      have hfg : few ≤ fg := by rw [fr3, costP_zero]; exact x4 _ fr2
      have hng : fg ≤ costO (cstD ds) (a :: nr) := by have := hfl nr n3; rwa [costP_zero] at this
      have hlf : few ≤ lg := by rw [rr3]; exact Nat.le_trans (x4 _ rr2) (costP_ge _ _ _ _)
      have hlen2 : (cst (a :: fr)).length = ds.length := by rw [cst_len, fr2.len]
      have hlen3 : (cst (0 :: rr)).length = ds.length := by rw [cst_len, rr2.len]
      have hi0 : ix (cst (a :: fr)) 0 = some (a : Int) := rfl
      have hr0 : ix (cst (0 :: rr)) 0 = some 0 := rfl
      have hfb := costO_le (c := cstD ds) hT.bd ord
      have hfb2 : 1000000 * ord.length ≤ 1000000 * 8 := Nat.mul_le_mul_left _ (by rw [x2.len]; omega)
      have hw1 : w64 ((few : Int) - 1) = (few : Int) - 1 := w64_in (by omega) (by omega)
      have hwn : w64 ((ds.length : Int) - 1) = (ds.length : Int) - 1 := w64_in (by omega) (by omega)
      have p1 := pairs_loop hT k2 hKl ((wS (cstD ds) K : Nat) : Int) 0
      -- the circle
      obtain ⟨ro, rb, rq1, rq2, rq3⟩ := snoc_of h1 h8 rr2
      obtain ⟨rw_, rw1, rw2⟩ := hT.at_ rb 0 rq2 (by omega)
      have rw2 : ix rw_ 0 = some ((cstD ds rb 0 : Nat) : Int) := rw2
      have rl := ring_loop hT rr2 (hT.bd rb 0) (lg : Int) 0
      have hlgv : lg = cstD ds rb 0 + costO (cstD ds) (0 :: rr) := by rw [rr3, costP_last rq1]; omega
      rw [← hlgv] at rl
      obtain ⟨oo, ob, oq1, oq2, oq3⟩ := snoc_of h1 h8 d2
      obtain ⟨ofst, ol, rfl⟩ : ∃ x l, o2 = x :: l := by
        cases o2 with
        | nil => have := d2.len; simp at this; omega
        | cons x l => exact ⟨x, l, rfl⟩
      have hofst : ofst < ds.length := (d2.2 ofst).1 (by simp)
      obtain ⟨ow_, ow_1, ow_2⟩ := hT.at_ ob ofst oq2 hofst
      have ho0 : ix (cst (ofst :: ol)) 0 = some (ofst : Int) := rfl
      have hcy := circle_least (cstD ds) d2
      rw [hL] at hcy
      unfold cyc at hcy
      rw [costP_last oq1] at hcy
      have hob := costO_le (c := cstD ds) hT.bd (ofst :: ol)
      have hob2 : 1000000 * (ofst :: ol).length ≤ 1000000 * 8 := Nat.mul_le_mul_left _ (by rw [d2.len]; omega)
      have hobd := hT.bd ob ofst
      have hwo : w64 (((costO (cstD ds) (ofst :: ol) : Nat) : Int) + ((cstD ds ob ofst : Nat) : Int)) = ((costO (cstD ds) (ofst :: ol) + cstD ds ob ofst : Nat) : Int) := by rw [w64_in (by omega) (by omega)]; omega
      have hany := x4 _ d2
      have last : ∀ q, q = false → laws_FnOrders.k_26 ds (tabD ds, 0) (cst (0 :: rr), (lg : Int), 0) (K, ((wS (cstD ds) K : Nat) : Int), 0) (cst (ofst :: ol)) (((costO (cstD ds) (ofst :: ol) : Nat) : Int), 0) q = some true := by
        rintro _ rfl
        simp only [laws_FnOrders.k_26, Bool.false_eq_true, if_false, p1, Option.bind_some, laws_FnOrders.k_28, bne_self_eq_false, rq3, rw1, rw2, rl, laws_FnOrders.k_33, oq3, ow_1, ow_2, ho0, hwo]
        simp
        omega
      simp only [e1, e2, hct, hcs, b1, b2, c1, c2, t1, t2, Option.bind_some, bne_self_eq_false, Bool.or_self, Bool.false_eq_true, if_false, hst, Bool.not_true, same_refl (cst ord) (by omega), same_refl (cst (0 :: rr)) (by omega), samePairs_refl K (by omega), Bool.or_false, laws_FnOrders.k_13, d1, oc1, ow1, ow2, hat, f1, f2, n1, n2, hck, hw1, same_refl (cst (a :: fr)) (by omega), same_refl (cst (a :: nr)) (by rw [cst_len, n3.len]; omega), hi0, hr0, hlen2, hlen3, hwn]
      have q1 : decide (((costO (cstD ds) (ofst :: ol) : Nat) : Int) < (few : Int)) = false := by simp; omega
      have q2 : (((costO (cstD ds) ord : Nat) : Int) != (few : Int)) = false := by simp; omega
      have q3 : decide (((wS (cstD ds) K : Nat) : Int) > (few : Int)) = false := by simp; omega
      have q4 : decide ((lg : Int) < (few : Int)) = false := by simp; omega
      have q5 : decide ((fg : Int) < (few : Int)) = false := by simp; omega
      have q6 : decide (((costO (cstD ds) (a :: nr) : Nat) : Int) < (fg : Int)) = false := by simp; omega
      have q7 : decide (((costO (cstD ds) ord : Nat) : Int) ≤ (few : Int)) = true := by simp; omega
      have q8 : decide (((costO (cstD ds) ord : Nat) : Int) ≤ (few : Int) - 1) = false := by simp; omega
      have q9 : ((K.length : Int) != (ds.length : Int) - 1) = false := by simp; omega
      rw [if_neg (show ¬ ((ds.length : Int) == 0) = true by simp only [beq_iff_eq]; omega)]
      simp only [q1, q2, q3, q4, q5, q6, q7, q8, q9, Bool.or_self, Bool.false_eq_true, if_false, Bool.not_true]
      exact last _ rfl

end Go.Proofs.Ytolfkfjjifdmeaa
