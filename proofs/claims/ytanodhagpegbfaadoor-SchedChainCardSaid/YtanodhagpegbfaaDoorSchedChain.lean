/- The law SchedChain. -/
import Derived.Test.YtanodhagpegbfaaDoorLive14
import Derived.Test.YtanodhagpegbfaaDoorKeys
namespace Go.Proofs.YtanodhagpegbfaaDoor
open Go Go.RowKit
set_option linter.unusedSimpArgs false
theorem RdAll.cellA {w : World} {v : Value} {ps : List (List (BitVec 8))} (h : RdAll w v ps) {i : Nat} (hi : i < ps.length) : ∃ g o cap u, v = .slice (some ⟨g, o, none⟩) ps.length cap ∧ (∀ wx, Aft w wx → wx.cell? ⟨g, o + i, none⟩ = some u) ∧ Rd w u (bv (ps.getD i [])) := by
  obtain ⟨vs, h1, h2, h3⟩ := h
  obtain ⟨g, o, cap, rfl, r1, r2, r3, r4⟩ := h1.at (by omega)
  have hv : vs[i]? = some (vs[i]'(by omega)) := List.getElem?_eq_getElem (by omega)
  refine ⟨g, o, cap, vs[i]'(by omega), by rw [h2], fun wx hx => ?_, h3 i _ hv⟩
  obtain ⟨a2, c2, e2, s1, s2, s3, s4⟩ := h1.grow hx
  injection e2 with e2
  rw [← Addr.add_lit]
  exact s4 _ e2.symm i _ hv
theorem Led.two {w0 w : World} {a b : Nat × Obj} {L : List (Nat × Obj)} (h : Led w0 w (a :: b :: L)) : Led w0 w [a, b] := by
  refine ⟨h.aft, fun i g o hi => ?_, fun i j g k o p hij hi hj => ?_⟩
  · match i, hi with
    | 0, hi => exact h.has 0 g o hi
    | 1, hi => exact h.has 1 g o hi
    | i + 2, hi => simp at hi
  · match i, j, hi, hj, hij with
    | 0, 1, hi, hj, hij => exact h.inc 0 1 g k o p hij hi hj
    | 0, 0, _, _, hij => exact absurd hij (Nat.lt_irrefl _)
    | 1, 0, _, _, hij => exact absurd hij (by omega)
    | 1, 1, _, _, hij => exact absurd hij (Nat.lt_irrefl _)
    | i + 2, _, hi, _, _ => simp at hi
    | _, j + 2, _, hj, _ => simp at hj
theorem nxt_alike {E O : Epo} (hN : E.N = O.N) (hH : E.H = O.H) (c c' t x : List (BitVec 8)) : nxtF E x = nxtF O x ∧ (nxtF E x = 0 → (nxtE E c t x).N = E.N + 1 ∧ (nxtE O c' t x).N = E.N + 1 ∧ (nxtE E c t x).H = (nxtE O c' t x).H ∧ E.N < 1099511627776) := by
  have h1 : hsE E x = hsE O x := by unfold hsE; rw [hN]
  have h2 : hsK E x = hsK O x := by unfold hsK; rw [hN, hH]
  refine ⟨by unfold nxtF; rw [hN, h1], fun h0 => ?_⟩
  unfold nxtF at h0
  by_cases h8 : E.N = 1099511627776
  · rw [if_pos h8] at h0
    cases h0
  · rw [if_neg h8] at h0
    have hs := hsE_small h0
    have e1 : nxtE E c t x = enE (jnK E c) (E.N + 1) t (hsK E x) := if_neg (by simp [h8, h0])
    have e2 : nxtE O c' t x = enE (jnK O c') (O.N + 1) t (hsK O x) := if_neg (by rw [← hN, ← h1]; simp [h8, h0])
    rw [e1, e2, enE_good (by omega), enE_good (by omega)]
    exact ⟨rfl, by show O.N + 1 = _; rw [hN], h2, by omega⟩
set_option maxRecDepth 100000 in
set_option maxHeartbeats 16000000 in
theorem schedChain_any (e : Epo) (v1 v2 : Value) (ks : List (List (BitVec 8))) (ts : List (List (BitVec 8))) (w : World) (hK : TabK K0 2 w) (ho : e.Ok) (h1 : RdK w v1 ks) (h2 : RdAll w v2 ts) :
    Calls Tryd.prog 10 #[.agg (epoL e).toArray, v1, v2] w fun r w' => r = .returned (.bool true) ∧ Below w.heap.size w w' := by
  have HK := Lib.hid hK
  have HO := Lib.hid ho
  have HKs := Lib.hid h1
  have HTs := Lib.hid h2
  have HLv := Lib.hid (fun (wx : World) (h : Aft w wx) => live14_any wx (TabK_fr HK.out (Fr.of_below (S := fun _ => False) h) (fun h => h)))
  have HN := Lib.hid (fun (E : Epo) (c t : List (BitVec 8)) (vx : Value) (x : List (BitVec 8)) (wx : World) (h : Aft w wx) => nextE_any E c t vx x wx (TabK_fr HK.out (Fr.of_below (S := fun _ => False) h) (fun h => h)))
  obtain ⟨a1, c1, rfl, -, HKl'⟩ := h1.shape
  obtain ⟨a2, c2, rfl, -⟩ := h2.shape
  have HKl := Lib.hid HKl'
  have HL := Lib.hid (Led.start w)
  clear hK ho h1 h2 HKl'
  have HOn := Lib.hid (show (nhE e.N e.H).Ok from nhE_ok HO.out.N HO.out.H)
  go_enter Tryd.func10, Tryd.ntmps10
  go_wp2_with (first | (refine wpList_boxO rfl 55 (.tmp 0) rfl (.agg (epoL e).toArray) rfl (.cells (epoL e).toArray 55) (box_epoch _) ?_; intro w' aa gg zz; replace HL := Lib.hid (HL.out.alloc aa gg.out); clear aa gg zz; try simp only [List.nil_append, List.cons_append, List.set_cons_zero, List.set_cons_succ] at HL))
  refine (HLv.out _ HL.out.aft).mono ?_
  rintro r w2 ⟨rfl, h2⟩
  replace HL := Lib.hid (HL.out.call h2)
  clear h2
  by_cases hA : (10 : Int) < (ks.length : Nat)
  · go_wp2_with fail
    go_ret
    exact ⟨rfl, HL.out.aft⟩
  by_cases hB : (10 : Int) < (ts.length : Nat)
  · go_wp2_with fail
    go_ret
    exact ⟨rfl, HL.out.aft⟩
  by_cases hC : (ts.length : Int) < (ks.length : Nat)
  · go_wp2_with fail
    go_ret
    exact ⟨rfl, HL.out.aft⟩
  have hC2 := Lib.hid (show ks.length ≤ ts.length by omega)
  have hn := epo_n (HL.out.get 0 rfl)
  go_wp2_with (first | (refine wpList_load_keyG (by kernel_rfl) (.tmp 36) rfl _ _ rfl e.H (epo_H (HL.out.get 0 rfl) HO.out) HO.out.H ?_) | (refine wpList_buildO (by kernel_rfl) 55 #[(0, .tmp 35), (5, .tmp 37)] rfl #[(0, .int .u64 (e.N : Int)), (5, .agg (bv e.H).toArray)] (by kernel_rfl) _ (build_epoch2 HO.out.H e.N) ?_) | (refine wpList_allocO rfl 55 rfl (.cells (epoL zE).toArray 55) alloc_epoch ?_; intro w' aa gg zz; replace HL := Lib.hid (HL.out.alloc aa gg.out); clear aa gg zz; try simp only [List.nil_append, List.cons_append, List.set_cons_zero, List.set_cons_succ] at HL) | (refine wpList_store_epoZ rfl (.tmp 8) (.tmp 38) rfl _ _ HOn.out rfl rfl _ (HL.out.get 1 rfl) (zE_ok) ?_; intro w' b1 b2 b3; replace HL := Lib.hid (HL.out.store 1 rfl b1 b2 b3); clear b1 b2 b3; try simp only [List.nil_append, List.cons_append, List.set_cons_zero, List.set_cons_succ] at HL))
  clear hn hA hB hC
  go_loopw [41] (fun v wr => ∃ i : Nat, i ≤ ks.length ∧ v = .int .i64 i ∧ ∃ E O : Epo, E.Ok ∧ O.Ok ∧ E.N = O.N ∧ E.H = O.H ∧ Led w wr [(w.heap.size, .cells (epoL E).toArray 55), (w2.heap.size, .cells (epoL O).toArray 55)]) (fun v _ => ks.length - (intOf v).toNat)
  case atStart => exact ⟨0, by omega, rfl, e, nhE e.N e.H, HO.out, HOn.out, rfl, rfl, HL.out⟩
  case round =>
    clear HL
    obtain ⟨i, hi, rfl, E, O, hE, hO, hEN, hEH, hL⟩ := hrel
    have HL := Lib.hid hL
    have HE := Lib.hid hE
    have HO' := Lib.hid hO
    have HEN := Lib.hid hEN
    have HEH := Lib.hid hEH
    clear hL hE hO hEN hEH
    by_cases hlt : i < ks.length
    · obtain ⟨gk, ok, ck, hvk, hXl, hXr⟩ := HKs.out.at hlt
      cases hvk
      obtain ⟨gt, ot, ct, u, hvt, hcu, hur⟩ := HTs.out.cellA (i := i) (by have := hC2.out; omega)
      cases hvt
      have HX := Lib.hid hXl
      have HXr := Lib.hid (fun (wx : World) (h : Aft w wx) => hXr.grow h)
      have HCU := Lib.hid hcu
      have HUr := Lib.hid hur
      obtain ⟨au, cu, rfl, -, -, -, -⟩ := hur
      have HA := nxt_alike HEN.out HEH.out (ks.getD i []) (List.replicate 32 0) (ks.getD i []) (ts.getD i [])
      have HAl := Lib.hid HA
      clear hXl hXr hcu HA
      rw [bv_length] at HUr HCU
      have HN1 := Lib.hid (fun (wx : World) (h : Aft w wx) => HN.out E (ks.getD i []) (ks.getD i []) (.slice au (ts.getD i []).length cu) (ts.getD i []) wx h HE.out HX.out HX.out (HUr.out.grow h))
      have HN2 := Lib.hid (show ∀ (wx : World) (h : Aft w wx), Calls Tryd.prog 37 #[.agg (epoL O).toArray, .agg key0, .agg (bv (ks.getD i [])).toArray, .slice au (ts.getD i []).length cu] wx fun r w' => r = .returned (.tuple #[.agg (epoL (nxtE O (List.replicate 32 0) (ks.getD i []) (ts.getD i []))).toArray, .int .i64 (nxtF O (ts.getD i []))]) ∧ Aft wx w' from fun wx h => by
        rw [← key0_bv]
        exact HN.out O (List.replicate 32 0) (ks.getD i []) (.slice au (ts.getD i []).length cu) (ts.getD i []) wx h HO'.out List.length_replicate HX.out (HUr.out.grow h))
      have HP1 := Lib.hid (nxtE_ok E (ks.getD i []) (ks.getD i []) (ts.getD i []))
      have HP2 := Lib.hid (nxtE_ok O (List.replicate 32 0) (ks.getD i []) (ts.getD i []))
      have hlt' : (i : Int) < (ks.length : Nat) := by omega
      have hlt2 : (i : Int) < (ts.length : Nat) := by have := hC2.out; omega
      generalize nxtE E (ks.getD i []) (ks.getD i []) (ts.getD i []) = E' at *
      generalize nxtE O (List.replicate 32 0) (ks.getD i []) (ts.getD i []) = O' at *
      generalize nxtF E (ts.getD i []) = f at *
      generalize nxtF O (ts.getD i []) = f' at *
      generalize ks.getD i [] = X at *
      generalize (ts.getD i []).length = tl at *
      by_cases h5 : (500 : Int) < (tl : Nat)
      · go_wp2_with (first | (refine wpList_load_keyG (by kernel_rfl) (.tmp 44) rfl _ _ rfl X (HXr.out _ HL.out.aft) HX.out ?_) | (refine wpList_allocO rfl 23 rfl (.cells key0 23) alloc_key ?_; intro w' aa gg zz; replace HL := Lib.hid (HL.out.alloc aa gg.out); clear aa gg zz; try simp only [List.nil_append, List.cons_append, List.set_cons_zero, List.set_cons_succ] at HL) | (refine wpList_store_keyZ rfl (.tmp 10) (.tmp 45) rfl _ X HX.out rfl rfl _ (HL.out.get 2 rfl) key0_size ?_; intro w' b1 b2 b3; replace HL := Lib.hid (HL.out.store 2 rfl b1 b2 b3); clear b1 b2 b3; try simp only [List.nil_append, List.cons_append, List.set_cons_zero, List.set_cons_succ] at HL; have hcl := HCU.out _ HL.out.aft))
        go_ret
        exact ⟨rfl, HL.out.aft⟩
      · go_wp2_with (first | (refine wpList_load_keyG (by kernel_rfl) (.tmp 44) rfl _ _ rfl X (HXr.out _ HL.out.aft) HX.out ?_) | (refine wpList_allocO rfl 23 rfl (.cells key0 23) alloc_key ?_; intro w' aa gg zz; replace HL := Lib.hid (HL.out.alloc aa gg.out); clear aa gg zz; try simp only [List.nil_append, List.cons_append, List.set_cons_zero, List.set_cons_succ] at HL) | (refine wpList_store_keyZ rfl (.tmp 10) (.tmp 45) rfl _ X HX.out rfl rfl _ (HL.out.get 2 rfl) key0_size ?_; intro w5 b1 b2 b3; replace HL := Lib.hid (HL.out.store 2 rfl b1 b2 b3); clear b1 b2 b3; try simp only [List.nil_append, List.cons_append, List.set_cons_zero, List.set_cons_succ] at HL; have hcl := HCU.out _ HL.out.aft))
        refine wp_region_lexF (fun i => ([0,0,0,0,0,0,0,2,0,0,0,1,3] : List Nat).getD i 0) 13 (by kernel_rfl) (by kernel_rfl) ?_; intro wq hwr
        replace HL := Lib.hid (HL.out.call (show Aft w5 wq by rw [hwr]; exact (Below.refl _ _).drew))
        clear hwr
        have hcu := fun u : Later wq.heap.size wq => HCU.out u.w (Aft.trans HL.out.aft u.h)
        have HLr := HL
        refine lf_load_row rfl (by kernel_rfl) 55 (.tmp 3) rfl _ rfl _ _ _ _ (HL.out.get 0 rfl) Tryd.underlying55 rfl (epo_info HE.out) ?_
        simp only [Act.put, List.setIfInBounds_toArray, List.set_cons_succ, List.set_cons_zero]
        refine lf_load_key rfl (by kernel_rfl) (.tmp 10) rfl _ 0 rfl X (HL.out.key 2 rfl HX.out) HX.out ?_
        simp only [Act.put, List.setIfInBounds_toArray, List.set_cons_succ, List.set_cons_zero]
        refine lf_load_key rfl (by kernel_rfl) (.tmp 10) rfl _ 0 rfl X (HL.out.key 2 rfl HX.out) HX.out ?_
        simp only [Act.put, List.setIfInBounds_toArray, List.set_cons_succ, List.set_cons_zero]
        repeat (first | (refine lf_skip (by go_big_quiet_skip; exact wpQuiet_nil trivial) (by kernel_rfl) ?_; simp only [Act.put, List.setIfInBounds_toArray, List.set_cons_succ, List.set_cons_zero]) | (refine lf_quiet rfl (by go_big_quiet_want; exact quiet_false (by assumption)) (by kernel_rfl) rfl ?_; intro Kx hKx; go_big_quiet_op; go_big_quiet_on))
        refine lf_eff rfl (by go_big_quiet_want; exact quiet_false (by assumption)) (by kernel_rfl) ?_
        intro wa1 ha Kx hKx
        replace HL := Lib.hid (HL.out.call ha)
        go_wp2_with fail
        refine (HN1.out wa1 HL.out.aft).mono ?_
        rintro r wb1 ⟨rfl, hb⟩
        go_wp2_with fail
        refine ⟨hb, ?_⟩
        have HRd := Lib.hid (Aft.trans ha hb)
        clear ha hb
        repeat (first | (refine lf_skip (by go_big_quiet_skip; exact wpQuiet_nil trivial) (by kernel_rfl) ?_; simp only [Act.put, List.setIfInBounds_toArray, List.set_cons_succ, List.set_cons_zero]) | (refine lf_quiet rfl (by go_big_quiet_want; exact quiet_false (by assumption)) (by kernel_rfl) rfl ?_; intro Kx hKx; go_big_quiet_op; go_big_quiet_on))
        refine lf_fresh (.cells (epoL zE).toArray 55) (fun g => .pointer (some ⟨g, 0, none⟩)) rfl (by kernel_rfl) (fun w1 => by kernel_rfl) ?_
        intro wk1 gk1 hk1 hk2 hk3
        simp only [Act.put, List.setIfInBounds_toArray, List.set_cons_succ, List.set_cons_zero]
        refine lf_store rfl (by kernel_rfl) 55 (.tmp 11) (.tmp 62) rfl gk1 (epoL E').toArray rfl rfl _ (epoL zE).toArray (Aft.trans HRd.out hk1) hk2 hk3 (epo_info HP1.out) (by rw [epo_old zE_ok, epo_old HP1.out]) (all_one (epoL_one _)) ?_
        intro wz1 z1 z2 z3
        simp only [Act.put]
        replace HL := Lib.hid (HLr.out.fresh z2 hk2 z1.out)
        clear HLr HRd hcu hk1 hk2 hk3 z1 z2 z3
        try simp only [List.nil_append, List.cons_append, List.set_cons_zero, List.set_cons_succ] at HL
        refine lf_done ?_
        intro wt1 ht
        replace HL := Lib.hid (HL.out.call ht)
        clear ht
        go_wp2_with fail
        refine wp_region_lexF (fun i => ([0,0,0,0,0,0,0,2,0,0,0,1,3] : List Nat).getD i 0) 13 (by kernel_rfl) (by kernel_rfl) ?_; intro wp hwr
        replace HL := Lib.hid (HL.out.call (show Aft wt1 wp by rw [hwr]; exact (Below.refl _ _).drew))
        clear hwr
        have hcu := fun u : Later wp.heap.size wp => HCU.out u.w (Aft.trans HL.out.aft u.h)
        have HLr := HL
        refine lf_load_row rfl (by kernel_rfl) 55 (.tmp 8) rfl _ rfl _ _ _ _ (HL.out.get 1 rfl) Tryd.underlying55 rfl (epo_info HO'.out) ?_
        simp only [Act.put, List.setIfInBounds_toArray, List.set_cons_succ, List.set_cons_zero]
        repeat (first | (refine lf_skip (by go_big_quiet_skip; exact wpQuiet_nil trivial) (by kernel_rfl) ?_; simp only [Act.put, List.setIfInBounds_toArray, List.set_cons_succ, List.set_cons_zero]) | (refine lf_quiet rfl (by go_big_quiet_want; exact quiet_false (by assumption)) (by kernel_rfl) rfl ?_; intro Kx hKx; go_big_quiet_op; go_big_quiet_on))
        refine lf_load_key rfl (by kernel_rfl) (.tmp 10) rfl _ 0 rfl X (HL.out.key 2 rfl HX.out) HX.out ?_
        simp only [Act.put, List.setIfInBounds_toArray, List.set_cons_succ, List.set_cons_zero]
        repeat (first | (refine lf_skip (by go_big_quiet_skip; exact wpQuiet_nil trivial) (by kernel_rfl) ?_; simp only [Act.put, List.setIfInBounds_toArray, List.set_cons_succ, List.set_cons_zero]) | (refine lf_quiet rfl (by go_big_quiet_want; exact quiet_false (by assumption)) (by kernel_rfl) rfl ?_; intro Kx hKx; go_big_quiet_op; go_big_quiet_on))
        refine lf_eff rfl (by go_big_quiet_want; exact quiet_false (by assumption)) (by kernel_rfl) ?_
        intro wa2 ha Kx hKx
        replace HL := Lib.hid (HL.out.call ha)
        go_wp2_with fail
        refine (HN2.out wa2 HL.out.aft).mono ?_
        rintro r wb2 ⟨rfl, hb⟩
        go_wp2_with fail
        refine ⟨hb, ?_⟩
        have HRd := Lib.hid (Aft.trans ha hb)
        clear ha hb
        repeat (first | (refine lf_skip (by go_big_quiet_skip; exact wpQuiet_nil trivial) (by kernel_rfl) ?_; simp only [Act.put, List.setIfInBounds_toArray, List.set_cons_succ, List.set_cons_zero]) | (refine lf_quiet rfl (by go_big_quiet_want; exact quiet_false (by assumption)) (by kernel_rfl) rfl ?_; intro Kx hKx; go_big_quiet_op; go_big_quiet_on))
        refine lf_fresh (.cells (epoL zE).toArray 55) (fun g => .pointer (some ⟨g, 0, none⟩)) rfl (by kernel_rfl) (fun w1 => by kernel_rfl) ?_
        intro wk2 gk2 hk1 hk2 hk3
        simp only [Act.put, List.setIfInBounds_toArray, List.set_cons_succ, List.set_cons_zero]
        refine lf_store rfl (by kernel_rfl) 55 (.tmp 13) (.tmp 73) rfl gk2 (epoL O').toArray rfl rfl _ (epoL zE).toArray (Aft.trans HRd.out hk1) hk2 hk3 (epo_info HP2.out) (by rw [epo_old zE_ok, epo_old HP2.out]) (all_one (epoL_one _)) ?_
        intro wz2 z1 z2 z3
        simp only [Act.put]
        replace HL := Lib.hid (HLr.out.fresh z2 hk2 z1.out)
        clear HLr HRd hcu hk1 hk2 hk3 z1 z2 z3
        try simp only [List.nil_append, List.cons_append, List.set_cons_zero, List.set_cons_succ] at HL
        refine lf_done ?_
        intro wt2 ht
        replace HL := Lib.hid (HL.out.call ht)
        clear ht
        clear hcl
        obtain ⟨hff, hf0⟩ := HAl.out
        subst hff
        have HF0 := Lib.hid hf0
        clear hf0 HAl
        by_cases hf : f = 0
        · obtain ⟨q1, q2, q3, q4⟩ := HF0.out hf
          subst hf
          have HQ1 := Lib.hid (show (E'.N : Int) = (E.N : Int) + 1 by omega)
          have HQ2 := Lib.hid (show (O'.N : Int) = (E.N : Int) + 1 by omega)
          have HQ3 := Lib.hid q3
          have HQ4 := Lib.hid (show E'.N = O'.N by omega)
          have HQ5 := Lib.hid (show decide (E'.H = O'.H) = true from decide_eq_true q3)
          have hN3 : (E.N : Int) + 1 < 18446744073709551616 := by omega
          clear q1 q2 q3 q4
          have hn0 := epo_n (HL.out.get 0 rfl)
          have hn3 := epo_n (HL.out.get 3 rfl)
          have hn4 := epo_n (HL.out.get 4 rfl)
          rw [HQ1.out] at hn3
          rw [HQ2.out] at hn4
          go_wp2_with (first | (refine wpList_load_keyG (by kernel_rfl) (.tmp 94) rfl _ _ rfl E'.H (epo_H (HL.out.get 3 rfl) HP1.out) HP1.out.H ?_) | (refine wpList_load_keyG (by kernel_rfl) (.tmp 96) rfl _ _ rfl O'.H (epo_H (HL.out.get 4 rfl) HP2.out) HP2.out.H ?_) | (refine wpList_binG (by kernel_rfl) .neq 23 23 (.tmp 95) (.tmp 97) rfl (.agg (bv E'.H).toArray) (.agg (bv O'.H).toArray) _ rfl rfl (run_neq_keys HP1.out.H HP2.out.H _ HQ5.out) (guard_key _ _ _ _ _) ?_) | (refine wpList_load_rowG (by kernel_rfl) 55 (.tmp 11) rfl _ rfl _ _ _ _ (HL.out.get 3 rfl) Tryd.underlying55 rfl (epo_info HP1.out) ?_) | (refine wpList_store_epoZ rfl (.tmp 3) (.tmp 107) rfl _ _ HP1.out rfl rfl _ (HL.out.get 0 rfl) (HE.out) ?_; intro w' b1 b2 b3; replace HL := Lib.hid (HL.out.store 0 rfl b1 b2 b3); clear b1 b2 b3; try simp only [List.nil_append, List.cons_append, List.set_cons_zero, List.set_cons_succ] at HL) | (refine wpList_load_rowG (by kernel_rfl) 55 (.tmp 13) rfl _ rfl _ _ _ _ (HL.out.get 4 rfl) Tryd.underlying55 rfl (epo_info HP2.out) ?_) | (refine wpList_store_epoZ rfl (.tmp 8) (.tmp 108) rfl _ _ HP2.out rfl rfl _ (HL.out.get 1 rfl) (HO'.out) ?_; intro w' b1 b2 b3; replace HL := Lib.hid (HL.out.store 1 rfl b1 b2 b3); clear b1 b2 b3; try simp only [List.nil_append, List.cons_append, List.set_cons_zero, List.set_cons_succ] at HL))
          go_roundw
          case rel => exact ⟨i + 1, by omega, by go_num, E', O', HP1.out, HP2.out, HQ4.out, HQ3.out, HL.out.two⟩
          case measure => simp [intOf]; omega
        · go_wp2_with fail
          go_ret
          exact ⟨by simp, HL.out.aft⟩
    · obtain rfl : i = ks.length := by omega
      have hlt' : ¬ ((ks.length : Nat) : Int) < (ks.length : Nat) := by omega
      go_wp2_with fail
      go_ret
      exact ⟨rfl, HL.out.aft⟩
end Go.Proofs.YtanodhagpegbfaaDoor
