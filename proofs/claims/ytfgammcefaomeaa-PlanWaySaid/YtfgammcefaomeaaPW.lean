/- PlanWay of law 12, walked. -/
import Derived.Test.YtfgammcefaomeaaP10
import Derived.Test.YtfgammcefaomeaaP12
import Derived.Deep.Cut
namespace Go.Proofs.Ytfgammcefaomeaa
open Go Go.RowKit
set_option linter.unusedSimpArgs false
theorem rpathE_ne {kind : Int} {ids : List Int} {ls : List (List Int)} {id : Int} (h : ¬ (mayE kind ids ls = 0 ∧ id ∈ ids)) : rpathE kind ids ls id = 6 ∨ rpathE kind ids ls id = 1 := by
  unfold rpathE
  split
  · rename_i h1
    rw [if_neg fun q => h ⟨h1, q⟩]
    exact .inl rfl
  · exact .inr rfl
theorem besTo_pre (N : List Nd) (W : List Int) (i : Nat) : ∀ d, ∃ l, besTo N W (i + d) = besTo N W i ++ l
  | 0 => ⟨[], (List.append_nil _).symm⟩
  | d + 1 => by
    obtain ⟨l, h⟩ := besTo_pre N W i d
    exact ⟨l ++ besF N W (i + d + 1), by rw [← Nat.add_assoc, besTo, h, List.append_assoc]⟩
theorem besTo_at {N : List Nd} {W : List Int} {n i j : Nat} (hi : i < n) (hj : j < (besF N W (i + 1)).length) :
    (besTo N W i).length + j < (besTo N W n).length ∧ (besTo N W n).getD ((besTo N W i).length + j) 0 = (besF N W (i + 1)).getD j 0 := by
  obtain ⟨l, h⟩ := besTo_pre N W (i + 1) (n - (i + 1))
  rw [show i + 1 + (n - (i + 1)) = n by omega, besTo, List.append_assoc] at h
  rw [h]
  refine ⟨by simp only [List.length_append]; omega, ?_⟩
  rw [List.getD_eq_getElem?_getD, List.getElem?_append_right (by omega), Nat.add_sub_cancel_left, List.getElem?_append_left hj, ← List.getD_eq_getElem?_getD]
theorem way_st {N : List Nd} {W : List Int} {ss : List (Stp × Value)} {n i : Nat} (h : ss.map Prod.fst = (List.range n).map (wayS N W)) (hi : i < n) : (ss.getD i stP).1 = wayS N W i := by
  have hl : ss.length = n := by have := congrArg List.length h; simpa using this
  have h1 := st_at (ps := ss) (i := i) (by omega)
  rw [h, List.getElem?_map, List.getElem?_range hi] at h1
  exact (Option.some.inj h1).symm
set_option maxRecDepth 100000 in
set_option maxHeartbeats 8000000 in
theorem planWay_any (kind id : Int) (vi vl : Value) (ids : List Int) (ls : List (List Int)) (w : World) (hi : Rd w vi (zv ids)) (hl : RdLs w vl ls) (w1 : ∀ x ∈ ids, (Lit.int .i64 x).wf = true) (wb : (Lit.int .i64 id).wf = true) :
    Calls Try.prog 4 #[.int .i64 kind, .agg (shpL vi vl).toArray, .int .i64 id] w fun e w' => e = .returned (.bool true) ∧ Aft w w' := by
  have HF := Lib.hid (fun (wx : World) (ha : Aft w wx) => few12_any vi vl (.slice none 0 0) ids ls [] wx (hi.grow ha) (hl.aft ha) (OwnI.nil wx 0).rd)
  have HMk := Lib.hid (fun (hs : Small ids ls) (wx : World) (ha : Aft w wx) => make_any kind id vi vl vi vl (.slice none 0 0) ids ls ids ls [] wx (hi.grow ha) (hl.aft ha) hs (hi.grow ha) (hl.aft ha) hs (OwnI.nil wx 0).rd hs.fi (by simp) wb (make_pre w1 w1))
  have HPt := Lib.hid (fun (hs : Small ids ls) (wx : World) (ha : Aft w wx) => rPath_any kind vi vl ids ls id wx (hi.grow ha) (hl.aft ha) hs)
  have HBs := Lib.hid (fun (hs : Small ids ls) (wx : World) (ha : Aft w wx) => rBeside_any kind vi vl ids ls id wx (hi.grow ha) (hl.aft ha) hs)
  obtain ⟨co, cc, rfl, -, -⟩ := hi.numS
  obtain ⟨dd, dc, rfl, -⟩ := hl.shape
  have HL := Lib.hid (Led.start w)
  clear hi hl w1 wb
  go_enter Try.func4, Try.ntmps4
  go_wp2_with (first | (refine wpList_boxO rfl 25 (.tmp 1) rfl (.agg (shpL (.slice co ids.length cc) (.slice dd ls.length dc)).toArray) rfl (.cells (shpL (.slice co ids.length cc) (.slice dd ls.length dc)).toArray 25) (box_shp _) ?_; intro w' aa gg zz; replace HL := Lib.hid (HL.out.alloc aa gg.out); clear aa gg zz; try simp only [List.nil_append, List.cons_append, List.set_cons_zero, List.set_cons_succ] at HL))
  refine (live12_any _).mono ?_
  rintro e w3 ⟨rfl, h3⟩
  replace HL := Lib.hid (HL.out.call h3)
  clear h3
  go_wp2_with (first | (refine wpList_load_rowG (by kernel_rfl) 25 (.tmp 4) rfl _ rfl _ _ _ _ (HL.out.get 0 rfl) Try.underlying25 rfl (shp_info _ _) ?_))
  refine (HF.out _ HL.out.aft).mono ?_
  rintro e w4 ⟨rfl, h4⟩
  replace HL := Lib.hid (HL.out.call h4)
  clear h4 HF
  cases hf0 : (fewT ids ls && decide (ids.length ≤ 120) && decide (([] : List Int).length ≤ 100)) with
  | false =>
    clear hf0
    go_wp2_with fail
    go_ret
    exact ⟨rfl, HL.out.aft⟩
  | true =>
    have HS := Lib.hid (show Small ids ls by simp only [Bool.and_eq_true] at hf0; exact fewT_small hf0.1.1)
    clear hf0
    go_wp2_with (first | (refine wpList_load_rowG (by kernel_rfl) 25 (.tmp 4) rfl _ rfl _ _ _ _ (HL.out.get 0 rfl) Try.underlying25 rfl (shp_info _ _) ?_))
    refine (HMk.out HS.out _ HL.out.aft).mono ?_
    rintro e w6 (⟨hok, vk, vs, ss, rfl, hk, hS, hss, h6⟩ | ⟨hno, rfl, h6⟩)
    rotate_left
    · replace HL := Lib.hid (HL.out.call h6)
      have HE := Lib.hid (rpathE_ne fun q => hno ⟨q.1, q.1, q.2⟩)
      clear h6 hno HMk
      go_wp2_with (first | (refine wpList_allocO rfl 30 rfl (.cells (plR (.slice none 0 0) (.slice none 0 0)).toArray 30) alloc_pl ?_; intro w7 aa gg zz; replace HL := Lib.hid (HL.out.alloc aa gg.out); clear aa gg zz; try simp only [List.nil_append, List.cons_append, List.set_cons_zero, List.set_cons_succ] at HL) | (refine wpList_store_rowZ rfl 30 (.tmp 8) (.tmp 35) rfl _ (plR (.slice none 0 0) (.slice none 0 0)).toArray rfl rfl _ _ (HL.out.get 1 rfl) (pl_info _ _) rfl (all_one plR_one) ?_; intro w8 b1 b2 b3; replace HL := Lib.hid (HL.out.store 1 rfl b1 b2 b3); clear b1 b2 b3; try simp only [List.nil_append, List.cons_append, List.set_cons_zero, List.set_cons_succ] at HL) | (refine wpList_load_rowG (by kernel_rfl) 25 (.tmp 4) rfl _ rfl _ _ _ _ (HL.out.get 0 rfl) Try.underlying25 rfl (shp_info _ _) ?_))
      refine (HPt.out HS.out _ HL.out.aft).mono ?_
      rintro e w9 ⟨vw, rfl, ho, h9⟩
      obtain ⟨wa, wc, rfl⟩ := ho.shape
      replace HL := Lib.hid (HL.out.call h9)
      clear ho h9 HPt
      go_wp2_with (first | (refine wpList_load_rowG (by kernel_rfl) 25 (.tmp 4) rfl _ rfl _ _ _ _ (HL.out.get 0 rfl) Try.underlying25 rfl (shp_info _ _) ?_))
      refine (HBs.out HS.out _ HL.out.aft).mono ?_
      rintro e w10 ⟨vw2, rfl, ho2, h10⟩
      obtain ⟨wa2, wc2, rfl⟩ := ho2.shape
      replace HL := Lib.hid (HL.out.call h10)
      clear ho2 h10 HBs
      rcases HE.out with q | q
      · rw [q]
        clear q HE
        go_wp2_with fail
        go_ret
        exact ⟨rfl, HL.out.aft⟩
      · rw [q]
        clear q HE
        go_wp2_with fail
        go_ret
        exact ⟨rfl, HL.out.aft⟩
    have hm := hok.1
    have hE : rpathE kind ids ls id = 0 := by unfold rpathE; rw [if_pos hm, if_pos hok.2.2]
    have hN9 := nodes_few (kind := kind) (mayE_zero.1 hm).2
    obtain ⟨W, hW, hW0, hWn, hkp, hst, hwl⟩ := planWay_law (kind := kind) (mayE_zero.1 hm).2 hok.2.2
    have hpw : rpathW kind ids ls id = W := by rw [hW]; exact if_pos hE
    have hbw : rbesW kind ids ls id = besTo (nodesL kind ids ls) W (W.length - 1) := by rw [← hpw]; exact if_pos hE
    have hkl := keepL_length (nodesL kind ids ls) (lvT (nodesL kind ids ls) ids [] id) ids (nodesL kind ids ls) (nodesL kind ids ls).length
    rw [hst] at hss
    obtain ⟨ka, kc, rfl⟩ := hk.shape
    obtain ⟨sa, sc, rfl⟩ := hS.shape
    have HK := Lib.hid hk
    have HSt := Lib.hid hS
    have HSs := Lib.hid hss
    have HKp := Lib.hid hkp
    have HKl := Lib.hid hkl
    have HWl := Lib.hid hwl
    have HPw := Lib.hid hpw
    have HBw := Lib.hid hbw
    have HE := Lib.hid hE
    have HW0 := Lib.hid hW0
    have HN9 := Lib.hid hN9
    have HWn := Lib.hid hWn
    have HBd := Lib.hid (besTo_length (fun k => nodes_k3 (kind := kind) (mayE_zero.1 hm).2 k) W (W.length - 1))
    have HSd := Lib.hid (show ∀ p ∈ ss, p.1.sd.length ≤ 1000000 from fun p hp => by
      have h : p.1 ∈ ss.map Prod.fst := List.mem_map_of_mem hp
      rw [hss] at h
      obtain ⟨j, -, h⟩ := List.mem_map.1 h
      rw [← h]
      have h3 := nodes_k3 (kind := kind) (mayE_zero.1 hm).2 (W.getD (j + 1) 0).toNat
      have h4 := List.length_filter_le (fun z => z != W.getD (j + 1 - 1) 0) ((nodesL kind ids ls).getD (W.getD (j + 1) 0).toNat nd0).ks
      show (besF (nodesL kind ids ls) W (j + 1)).length ≤ 1000000
      unfold besF
      omega)
    replace HL := Lib.hid (HL.out.call h6)
    clear h6 hok hk hS hss hkp hkl hwl hpw hbw hE hW0 hN9 hWn hm hst hW HMk
    generalize keepL (nodesL kind ids ls) (lvT (nodesL kind ids ls) ids [] id) ids (nodesL kind ids ls) (nodesL kind ids ls).length = kl at *
    generalize nodesL kind ids ls = N at *
    have HA6 := Lib.hid (Aft.refl w6)
    go_wp2_with (first | (refine wpList_allocO rfl 30 rfl (.cells (plR (.slice none 0 0) (.slice none 0 0)).toArray 30) alloc_pl ?_; intro w7 aa gg zz; replace HA6 := Lib.hid (Aft.trans HA6.out aa); replace HL := Lib.hid (HL.out.alloc aa gg.out); clear aa gg zz; try simp only [List.nil_append, List.cons_append, List.set_cons_zero, List.set_cons_succ] at HL) | (refine wpList_store_rowZ rfl 30 (.tmp 8) (.tmp 35) rfl _ (plR (.slice ka kl.length kc) (.slice sa ss.length sc)).toArray rfl rfl _ _ (HL.out.get 1 rfl) (pl_info _ _) rfl (all_one plR_one) ?_; intro w8 b1 b2 b3; replace HA6 := Lib.hid (b3 _ _ (Nat.le_refl _) HA6.out); replace HL := Lib.hid (HL.out.store 1 rfl b1 b2 b3); clear b1 b2 b3; try simp only [List.nil_append, List.cons_append, List.set_cons_zero, List.set_cons_succ] at HL) | (refine wpList_load_rowG (by kernel_rfl) 25 (.tmp 4) rfl _ rfl _ _ _ _ (HL.out.get 0 rfl) Try.underlying25 rfl (shp_info _ _) ?_))
    refine (HPt.out HS.out _ HL.out.aft).mono ?_
    rintro e w9 ⟨vw, rfl, ho, h9⟩
    rw [HPw.out] at ho
    rw [HE.out]
    obtain ⟨wa, wc, rfl⟩ := ho.shape
    replace HL := Lib.hid (HL.out.call h9)
    replace HA6 := Lib.hid (Aft.trans HA6.out h9)
    have HRw := Lib.hid ho.rd
    clear ho h9 HPt
    go_wp2_with (first | (refine wpList_load_rowG (by kernel_rfl) 25 (.tmp 4) rfl _ rfl _ _ _ _ (HL.out.get 0 rfl) Try.underlying25 rfl (shp_info _ _) ?_))
    refine (HBs.out HS.out _ HL.out.aft).mono ?_
    rintro e w10 ⟨vw2, rfl, ho2, h10⟩
    rw [HBw.out] at ho2
    rw [HE.out]
    obtain ⟨wa2, wc2, rfl⟩ := ho2.shape
    replace HL := Lib.hid (HL.out.call h10)
    replace HA6 := Lib.hid (Aft.trans HA6.out h10)
    replace HRw := Lib.hid (HRw.out.grow h10)
    have HRb := Lib.hid ho2.rd
    have HRk := Lib.hid (HK.out.aft HA6.out).rd
    have HRs := Lib.hid (HSt.out.aft HA6.out).rd
    clear ho2 h10 HBs HK HSt HA6 HE HPw HBw
    have HSn := Lib.hid (show sndL (ss.map Prod.fst) = (((besTo N W (W.length - 1)).length : Nat) : Int) by rw [HSs.out]; exact besTo_snd N W (W.length - 1))
    obtain ⟨n, hn⟩ : ∃ n, n = W.length - 1 := ⟨_, rfl⟩
    rw [← hn] at HSn HRb HSs HBd ⊢
    have HSl := Lib.hid (show ss.length = n by have := congrArg List.length HSs.out; simpa using this)
    have hWl : W.length = n + 1 := by have := HW0.out; omega
    have HWl2 := Lib.hid hWl
    have hn9 : n ≤ 90000 := by have := HN9.out; have := HWn.out; omega
    have HN1 := Lib.hid hn9
    have hwr : wrap64 ((W.length : Int) - 1) = (n : Int) := by rw [wrap64_mid (by omega) (by omega)]; omega
    clear hn hWl hn9
    obtain ⟨Bs, hBs⟩ : ∃ Bs, Bs = besTo N W n := ⟨_, rfl⟩
    rw [← hBs] at HRb HBd HSn ⊢
    have HBe := Lib.hid hBs
    clear hBs
    have e1 := cell_part (n := 1) (HL.out.get 1 rfl) rfl
    rw [HSl.out] at e1
    go_wp2_with (first | (refine wpList_load_rowG (by kernel_rfl) 30 (.tmp 8) rfl _ rfl _ _ _ _ (HL.out.get 1 rfl) Try.underlying30 rfl (pl_info _ _) ?_))
    refine (sends_any _ _ ss kl.length ka kc rfl _ HRs.out (by have := HSl.out; have := HN1.out; omega) HSd.out).mono ?_
    rintro e w11 ⟨rfl, h11⟩
    rw [HSn.out]
    have hss0 : ss.length = n := HSl.out
    replace HL := Lib.hid (show Led w w11 [(w.heap.size, .cells (shpL (.slice co ids.length cc) (.slice dd ls.length dc)).toArray 25), (w6.heap.size, .cells (plR (.slice ka kl.length kc) (.slice sa n sc)).toArray 30)] by rw [← hss0]; exact HL.out.call h11)
    replace HRw := Lib.hid (HRw.out.grow h11)
    replace HRb := Lib.hid (HRb.out.grow h11)
    replace HRk := Lib.hid (HRk.out.grow h11)
    replace HRs := Lib.hid (HRs.out.aft h11)
    clear h11 e1 hss0 hwr
    have e1 := cell_part (n := 1) (HL.out.get 1 rfl) rfl
    go_wp2_with fail
    clear e1
    have HA := Lib.hid (Aft.refl w11)
    go_loopw [14, 91] (fun v14 v91 wr => ∃ i : Nat, i ≤ n ∧ v91 = .int .i64 (i : Int) ∧ v14 = .int .i64 (((besTo N W i).length : Nat) : Int) ∧ Led w wr [(w.heap.size, .cells (shpL (.slice co ids.length cc) (.slice dd ls.length dc)).toArray 25), (w6.heap.size, .cells (plR (.slice ka kl.length kc) (.slice sa n sc)).toArray 30)] ∧ Aft w11 wr) (fun _ v _ => n - (intOf v).toNat)
    case atStart => exact ⟨0, Nat.zero_le _, rfl, rfl, HL.out, HA.out⟩
    case round =>
      clear HL HA
      obtain ⟨i, hi, rfl, rfl, hL, hA⟩ := hrel
      have HL := Lib.hid hL
      have HA := Lib.hid hA
      clear hL hA
      by_cases hlt : i < n
      · have hlt' : (i : Int) < (n : Nat) := by omega
        have hi9 : i ≤ 90000 := by have := HN1.out; omega
        have hx := way_st HSs.out hlt
        obtain ⟨g, o, c4, he, hrg⟩ := HRs.out.rng (i := i) (by rw [HSl.out]; exact hlt)
        injection he with he1 he2 he3
        subst he1 he3
        have hkd := HRs.out.kid _ (stP_mem (i := i) (by rw [HSl.out]; exact hlt))
        obtain ⟨qa, qc, hkv, -, -⟩ := hkd.numS
        have hrx := hrg wr HA.out
        rw [hkv] at hrx hkd
        obtain ⟨b, o2, rfl, -, -⟩ := HRw.out.some_of (by rw [zv_length, HWl2.out]; omega)
        obtain ⟨k1, q1, -⟩ := HWl.out i (by have := HWl2.out; omega)
        obtain ⟨k2, q2, -⟩ := HWl.out (i + 1) (by have := HWl2.out; omega)
        have HW1 := Lib.hid (fun (wx : World) (ha : Aft w11 wx) => (HRw.out.grow ha).num_at (i := i) (by have := HWl2.out; omega))
        have HW2 := Lib.hid (fun (wx : World) (ha : Aft w11 wx) => (HRw.out.grow ha).num_at (i := i + 1) (by have := HWl2.out; omega))
        have HX0 := Lib.hid (show (ss.getD i stP).1.nd = W.getD (i + 1) 0 by rw [hx]; rfl)
        have HX1 := Lib.hid (show (ss.getD i stP).1.fr = W.getD i 0 by rw [hx]; rfl)
        have HX2 := Lib.hid (show (ss.getD i stP).1.sd = besF N W (i + 1) by rw [hx]; rfl)
        generalize (ss.getD i stP).1 = x at *
        have HRx := Lib.hid hrx
        have HKd := Lib.hid hkd
        have hwl2 : i + 1 < W.length := by have := HWl2.out; omega
        clear hrg hkv he2 hrx hkd hx q1 q2
        go_wp2_with (first | (refine wpList_dstT 95 rfl ?_; refine wpList_load_mid2 (by kernel_rfl) 40 (.tmp 94) rfl _ _ rfl (stR x.nd x.fr (.slice qa x.sd.length qc)) HRx.out _ Try.underlying40 rfl (st_info2 _ _ _) ?_) | (refine wpList_allocO rfl 40 rfl (.cells (stR 0 0 (.slice none 0 0)).toArray 40) alloc_st ?_; intro wA aa gg zz; have HA9 := Lib.hid HA.out; replace HA := Lib.hid (Aft.trans HA.out aa); replace HL := Lib.hid (HL.out.alloc aa gg.out); clear aa gg zz; try simp only [List.nil_append, List.cons_append, List.set_cons_zero, List.set_cons_succ] at HL) | (refine wpList_store_rowZ rfl 40 (.tmp 16) (.tmp 95) rfl _ (stR x.nd x.fr (.slice qa x.sd.length qc)).toArray rfl rfl _ _ (HL.out.get 2 rfl) (st_info _ _ _) rfl (all_one stR_one) ?_; intro wB b1 b2 b3; replace HA := Lib.hid (b3 _ _ (Below.size HA9.out) HA.out); replace HL := Lib.hid (HL.out.store 2 rfl b1 b2 b3); clear b1 b2 b3 HA9; try simp only [List.nil_append, List.cons_append, List.set_cons_zero, List.set_cons_succ] at HL))
        have x0 := fun u : Later wB.heap.size wB => (show u.w.cell? ⟨wr.heap.size, 0, none⟩ = some (.int .i64 (W.getD (i + 1) 0)) by rw [← HX0.out]; exact cell_part (n := 0) (Aft.get u.h (HL.out.get 2 rfl)) rfl)
        have x1 := fun u : Later wB.heap.size wB => (show u.w.cell? ⟨wr.heap.size, 1, none⟩ = some (.int .i64 (W.getD i 0)) by rw [← HX1.out]; exact cell_part (n := 1) (Aft.get u.h (HL.out.get 2 rfl)) rfl)
        have y1 := fun u : Later wB.heap.size wB => HW1.out u.w (Aft.trans HA.out u.h)
        have y2 := fun u : Later wB.heap.size wB => HW2.out u.w (Aft.trans HA.out u.h)
        have HDr := Lib.hid (show Aft wB wB.drew from (Below.refl _ _).drew)
        have hq1 : (i : Int) < (W.length : Nat) := by omega
        have hq2 : (i : Int) + 1 < (W.length : Nat) := by omega
        clear HX0 HX1 HW1 HW2
        generalize W.getD (i + 1) 0 = u1 at *
        generalize W.getD i 0 = u0 at *
        refine wp_region_lex (fun wz => ∃ u : Later wB.heap.size wB, wz = u.w) (fun i => ([] : List Nat).contains i) 17 (by kernel_rfl) (by kernel_rfl) ⟨⟨wB.drew, (Below.refl _ _).drew⟩, rfl⟩ ?_
        change wpLx _ _ _ _ _ _ _ _ _ wB.drew
        try simp only [Act.put]
        repeat (first | (refine lx_skipT (by go_big_quiet_skip; exact wpQuiet_nil trivial) (by kernel_rfl) ?_; simp only [Act.put, List.setIfInBounds_toArray, List.set_cons_succ, List.set_cons_zero]) | (refine lx_quietT rfl (by go_big_quiet_want; exact quiet_false (by assumption)) (by kernel_rfl) rfl ?_; intro Kx hKx; go_big_quiet_op; go_big_quiet_on))
        refine lx_done ?_
        clear x0 x1 y1 y2 hq1 hq2
        replace HL := Lib.hid (HL.out.call HDr.out)
        replace HA := Lib.hid (Aft.trans HA.out HDr.out)
        generalize wB.drew = wd at *
        have d2 := cell_part (n := 2) (HL.out.get 2 rfl) rfl
        go_wp2_with fail
        clear d2
        obtain ⟨sd, hsd⟩ : ∃ sd, sd = x.sd := ⟨_, rfl⟩
        rw [← hsd] at HKd HX2
        have hsl : x.sd.length = sd.length := by rw [hsd]
        rw [hsl]
        have HLq := Lib.hid HL.out
        clear hsd hsl
        go_loopw [14, 116] (fun v14 v116 wz => ∃ j : Nat, j ≤ sd.length ∧ v116 = .int .i64 (j : Int) ∧ v14 = .int .i64 ((((besTo N W i).length + j : Nat) : Nat) : Int) ∧ wz = wd) (fun _ v _ => sd.length - (intOf v).toNat)
        case atStart => exact ⟨0, Nat.zero_le _, rfl, rfl, rfl⟩
        case round =>
          obtain ⟨j, hj, rfl, rfl, rfl⟩ := hrel
          by_cases hjt : j < sd.length
          · have hjt' : (j : Int) < (sd.length : Nat) := by omega
            obtain ⟨hb1, hb2⟩ := besTo_at (N := N) (W := W) hlt (j := j) (by rw [← HX2.out]; exact hjt)
            rw [← HBe.out] at hb1 hb2
            rw [← HX2.out] at hb2
            obtain ⟨b3, o3, rfl, -, -⟩ := HKd.out.some_of (by rw [zv_length]; omega)
            have c1 := (HKd.out.grow HA.out).num_at hjt
            obtain ⟨b4, o4, rfl, -, -⟩ := HRb.out.some_of (by rw [zv_length]; omega)
            have c2 := (HRb.out.grow HA.out).num_at hb1
            rw [hb2] at c2
            have hbt : (((besTo N W i).length : Nat) : Int) + (j : Int) < (Bs.length : Nat) := by omega
            have hbb := HBd.out
            have hn1 := HN1.out
            generalize (besTo N W i).length = bi at *
            generalize sd.getD j 0 = z at *
            clear hb2
            go_wp2_with fail
            go_roundw
            case rel => exact ⟨j + 1, by omega, by go_num, by go_num, by first | trivial | rfl⟩
            case measure => simp [intOf]; omega
          · obtain rfl : j = sd.length := by omega
            have hjt' : ¬ ((sd.length : Nat) : Int) < (sd.length : Nat) := by omega
            have hbl : (besTo N W i).length + sd.length = (besTo N W (i + 1)).length := by
              rw [besTo, List.length_append, ← HX2.out]
            rw [hbl]
            clear hbl
            go_wp2_with fail
            go_roundw
            case rel => exact ⟨i + 1, by omega, by go_num, rfl, HLq.out.cut 2, HA.out⟩
            case measure => simp [intOf]; omega
      · obtain rfl : i = n := by omega
        have hlt' : ¬ ((i : Nat) : Int) < (i : Nat) := by omega
        have e0 := cell_part (n := 0) (HL.out.get 1 rfl) rfl
        go_wp2_with fail
        clear e0
        have HLe := Lib.hid HL.out
        have HRk2 := Lib.hid (HRk.out.grow HA.out)
        have HRw2 := Lib.hid (HRw.out.grow HA.out)
        clear HL HA
        go_loopw [139] (fun v139 wz => ∃ k : Nat, k ≤ kl.length ∧ v139 = .int .i64 (k : Int) ∧ wz = wr) (fun v _ => kl.length - (intOf v).toNat)
        case atStart => exact ⟨0, Nat.zero_le _, rfl, rfl⟩
        case round =>
          obtain ⟨k, hk, rfl, rfl⟩ := hrel
          by_cases hkt : k < kl.length
          · have hkt' : (k : Int) < (kl.length : Nat) := by omega
            obtain ⟨b3, o3, rfl, -, -⟩ := HRk2.out.some_of (by rw [zv_length]; omega)
            have c1 := HRk2.out.num_at hkt
            have HKv := Lib.hid (HKp.out k (by have := HKl.out; omega))
            have hk9 : k ≤ 90000 := by have := HKl.out; have := HN9.out; omega
            generalize kl.getD k 0 = old at *
            go_wp2_with fail
            clear c1
            go_loopw [21, 146] (fun v21 v146 wz => ∃ j : Nat, j ≤ W.length ∧ v146 = .int .i64 (j : Int) ∧ v21 = .bool (decide ((k : Int) ∈ W.take j)) ∧ wz = wr) (fun _ v _ => W.length - (intOf v).toNat)
            case atStart => exact ⟨0, Nat.zero_le _, rfl, by simp, rfl⟩
            case round =>
              obtain ⟨j, hj, rfl, rfl, rfl⟩ := hrel
              by_cases hjt : j < W.length
              · have hjt' : (j : Int) < (W.length : Nat) := by omega
                have hj9 : j ≤ 90000 := by have := HWl2.out; have := HN1.out; omega
                obtain ⟨b4, o4, rfl, -, -⟩ := HRw2.out.some_of (by rw [zv_length]; omega)
                have c2 := HRw2.out.num_at hjt
                have HTk := Lib.hid (take_getD hjt)
                generalize W.getD j 0 = z at *
                by_cases hon : (k : Int) ∈ W.take j
                · rw [decide_eq_true hon]
                  have HOn := Lib.hid (show decide ((k : Int) ∈ W.take (j + 1)) = true from decide_eq_true (by rw [HTk.out]; exact List.mem_append_left _ hon))
                  clear hon
                  go_wp2_with fail
                  go_roundw
                  case rel => exact ⟨j + 1, by omega, by go_num, by rw [HOn.out], by first | trivial | rfl⟩
                  case measure => simp [intOf]; omega
                · rw [decide_eq_false hon]
                  have HOn := Lib.hid (show decide ((k : Int) ∈ W.take (j + 1)) = (z == (k : Int)) by
                    by_cases e : z = (k : Int)
                    · rw [decide_eq_true (by rw [HTk.out, e]; simp), e, beq_self_eq_true]
                    · rw [decide_eq_false (by rw [HTk.out]; simp only [List.mem_append, List.mem_singleton, not_or]; exact ⟨hon, fun q => e q.symm⟩), beq_eq_false_iff_ne.2 e])
                  clear hon
                  go_wp2_with fail
                  go_roundw
                  case rel => exact ⟨j + 1, by omega, by go_num, by rw [HOn.out], by first | trivial | rfl⟩
                  case measure => simp [intOf]; omega
              · obtain rfl : j = W.length := by omega
                have hjt' : ¬ ((W.length : Nat) : Int) < (W.length : Nat) := by omega
                rw [List.take_length]
                by_cases hon : (k : Int) ∈ W
                · rw [decide_eq_true hon]
                  have ho := HKv.out
                  rw [if_pos hon] at ho
                  subst ho
                  clear hon HKv
                  go_wp2_with fail
                  go_roundw
                  case rel => exact ⟨k + 1, by omega, by go_num, by first | trivial | rfl⟩
                  case measure => simp [intOf]; omega
                · rw [decide_eq_false hon]
                  have ho := HKv.out
                  rw [if_neg hon] at ho
                  subst ho
                  clear hon HKv
                  have hk0 : ¬ (k : Int) < 0 := by omega
                  have hk1 : (k : Int) ≥ 0 := by omega
                  go_wp2_with fail
                  go_roundw
                  case rel => exact ⟨k + 1, by omega, by go_num, by first | trivial | rfl⟩
                  case measure => simp [intOf]; omega
          · obtain rfl : k = kl.length := by omega
            have hkt' : ¬ ((kl.length : Nat) : Int) < (kl.length : Nat) := by omega
            go_wp2_with fail
            go_ret
            exact ⟨rfl, HLe.out.aft⟩
end Go.Proofs.Ytfgammcefaomeaa
