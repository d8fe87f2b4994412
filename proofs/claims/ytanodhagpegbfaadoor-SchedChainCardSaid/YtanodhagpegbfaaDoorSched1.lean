/- sched.Joiner, Hash and Tag, and the document's: what they hand back. -/
import Derived.Test.YtanodhagpegbfaaDoorSched0
namespace Go.Proofs.YtanodhagpegbfaaDoor
open Go Go.RowKit
set_option maxRecDepth 100000 in
set_option maxHeartbeats 2000000 in
theorem joiner_any (e : Epo) (c : List (BitVec 8)) (w : World) (hK : TabK K0 2 w) (ho : e.Ok) (hc : c.length = 32) :
    Calls Tryd.prog 42 #[.agg (epoL e).toArray, .agg (bv c).toArray] w fun r w' => r = .returned (.tuple #[.agg (bv (jnK e c)).toArray, .int .i64 (epChk e.N)]) ∧ Aft w w' := by
  have HK := Lib.hid hK
  have HO := Lib.hid ho
  have HCl := Lib.hid hc
  have HC := Lib.hid (fun wx : World => schedCheck_any e wx)
  have HE := Lib.hid (fun (wx : World) (v1 v2 : Value) (h : Aft w wx) (h1 : Rd wx v1 (bv e.I)) (h2 : Rd wx v2 (bv c)) => macExtract_any v1 v2 e.I c wx (TabK_fr HK.out (Fr.of_below (S := fun _ => False) h) (fun h => h)) h1 h2 (by have := ho.I; omega) (by omega))
  have HXl := Lib.hid (macOf_length K0 e.I c)
  have HL := Lib.hid (Led.start w)
  have hbk := box_key c
  clear hK ho hc
  go_enter Tryd.func42, Tryd.ntmps42
  go_wp2_with (first | (refine wpList_boxO rfl 55 (.tmp 0) rfl (.agg (epoL e).toArray) rfl (.cells (epoL e).toArray 55) (box_epoch _) ?_; intro w' aa gg zz; replace HL := Lib.hid (HL.out.alloc aa gg.out); clear aa gg zz) | (refine wpList_boxO rfl 23 (.tmp 1) rfl (.agg (bv c).toArray) rfl (.cells (bv c).toArray 23) (box_key _) ?_; intro w' aa gg zz; replace HL := Lib.hid (HL.out.alloc aa gg.out); clear aa gg zz) | (refine wpList_allocO rfl 23 rfl (.cells key0 23) alloc_key ?_; intro w' aa gg zz; replace HL := Lib.hid (HL.out.alloc aa gg.out); clear aa gg zz) | (refine wpList_load_rowG (by kernel_rfl) 55 (.tmp 2) rfl _ rfl _ _ _ _ (HL.out.get 0 rfl) Tryd.underlying55 rfl (epo_info HO.out) ?_))
  refine (HC.out _).mono ?_
  rintro r w2 ⟨rfl, h2⟩
  replace HL := Lib.hid (HL.out.call h2)
  clear h2 hbk
  by_cases h : e.N ≤ 1099511627776
  · have HQ := Lib.hid (show jnK e c = macOf K0 e.I c from if_pos h)
    rw [show epChk e.N = 0 from if_pos h]
    have HQ2 := Lib.hid (show epChk e.N = 0 from if_pos h)
    clear h
    have hal := fun (wx : World) (g n : Nat) => run_sliceAt_keyN wx g n
    go_wp2_with fail
    refine wp_region_lexF (fun i => ([0, 0, 0, 2] : List Nat).getD i 0) 4 (by kernel_rfl) (by kernel_rfl) ?_; intro wr hwr
    replace HL := Lib.hid (HL.out.call (show Aft w2 wr by rw [hwr]; exact (Below.refl _ _).drew))
    clear hwr
    repeat (first | (refine lf_skip (by go_big_quiet_skip; exact wpQuiet_nil trivial) (by kernel_rfl) ?_; simp only [Act.put, List.setIfInBounds_toArray, List.set_cons_succ, List.set_cons_zero]) | (refine lf_quiet rfl (by go_big_quiet_want; exact quiet_false (by assumption)) (by kernel_rfl) rfl ?_; intro Kx hKx; go_big_quiet_op; go_big_quiet_on))
    refine lf_eff rfl (by go_big_quiet_want; exact quiet_false (by assumption)) (by kernel_rfl) ?_
    intro wc hc Kx hKx
    replace HL := Lib.hid (HL.out.call hc)
    go_wp2_with fail
    refine (HE.out wc _ _ HL.out.aft (epo_I (HL.out.get 0 rfl) HO.out) (HL.out.key 1 rfl HCl.out)).mono ?_
    rintro r wd ⟨rfl, hd⟩
    go_wp2_with fail
    refine ⟨hd, ?_⟩
    replace HL := Lib.hid (HL.out.call hd)
    clear hd hc
    generalize hX : macOf K0 e.I c = X at HXl HQ ⊢
    refine lf_done ?_
    intro wt ht
    replace HL := Lib.hid (HL.out.call ht)
    clear ht
    go_wp2_with (first | (refine wpList_store_keyZ rfl (.tmp 4) (.tmp 16) rfl _ X HXl.out rfl rfl _ (HL.out.get 2 rfl) key0_size ?_; intro w' b1 b2 b3; replace HL := Lib.hid (HL.out.store 2 rfl b1 b2 b3); clear b1 b2 b3))
    refine bodyPost_ret (results_cell_tmp rfl _ _ _ 23 _ (0, 0) _ rfl (HL.out.get 2 rfl) Tryd.underlying23 rfl (key_info HXl.out)) rfl ?_
    exact ⟨by rw [HQ.out, HQ2.out]; rfl, HL.out.aft⟩
  · have HQ := Lib.hid (show jnK e c = List.replicate 32 0 from if_neg h)
    have HQ2 := Lib.hid (show epChk e.N = 1 from if_neg h)
    rw [HQ2.out]
    clear h
    go_wp2_with (first | (refine wpList_store_keyZ0 rfl (.tmp 4) (.tmp 11) rfl _ rfl rfl _ (HL.out.get 2 rfl) key0_size ?_; intro w' b1 b2 b3; replace HL := Lib.hid (HL.out.store 2 rfl b1 b2 b3); clear b1 b2 b3))
    refine bodyPost_ret (results_cell_tmp rfl _ _ _ 23 _ (0, 0) _ rfl (HL.out.get 2 rfl) Tryd.underlying23 rfl (key_info List.length_replicate)) rfl ?_
    exact ⟨by rw [HQ.out, HQ2.out]; rfl, HL.out.aft⟩
set_option maxRecDepth 100000 in
set_option maxHeartbeats 2000000 in
theorem refJoiner_any (e : Epo) (c : List (BitVec 8)) (w : World) (hK : TabK K0 0 w) (ho : e.Ok) (hc : c.length = 32) :
    Calls Tryd.prog 43 #[.agg (epoL e).toArray, .agg (bv c).toArray] w fun r w' => r = .returned (.tuple #[.agg (bv (jnK e c)).toArray, .int .i64 (epChk e.N)]) ∧ Aft w w' := by
  have HK := Lib.hid hK
  have HO := Lib.hid ho
  have HCl := Lib.hid hc
  have HC := Lib.hid (fun wx : World => refSchedCheck_any e wx)
  have HE := Lib.hid (fun (wx : World) (v1 v2 : Value) (h : Aft w wx) (h1 : Rd wx v1 (bv e.I)) (h2 : Rd wx v2 (bv c)) => refExtract_any v1 v2 e.I c wx (TabK_fr HK.out (Fr.of_below (S := fun _ => False) h) (fun h => h)) h1 h2 (by have := ho.I; omega) (by omega))
  have HXl := Lib.hid (macOf_length K0 e.I c)
  have HL := Lib.hid (Led.start w)
  have hbk := box_key c
  clear hK ho hc
  go_enter Tryd.func43, Tryd.ntmps43
  go_wp2_with (first | (refine wpList_boxO rfl 55 (.tmp 0) rfl (.agg (epoL e).toArray) rfl (.cells (epoL e).toArray 55) (box_epoch _) ?_; intro w' aa gg zz; replace HL := Lib.hid (HL.out.alloc aa gg.out); clear aa gg zz) | (refine wpList_boxO rfl 23 (.tmp 1) rfl (.agg (bv c).toArray) rfl (.cells (bv c).toArray 23) (box_key _) ?_; intro w' aa gg zz; replace HL := Lib.hid (HL.out.alloc aa gg.out); clear aa gg zz) | (refine wpList_allocO rfl 23 rfl (.cells key0 23) alloc_key ?_; intro w' aa gg zz; replace HL := Lib.hid (HL.out.alloc aa gg.out); clear aa gg zz) | (refine wpList_load_rowG (by kernel_rfl) 55 (.tmp 2) rfl _ rfl _ _ _ _ (HL.out.get 0 rfl) Tryd.underlying55 rfl (epo_info HO.out) ?_))
  refine (HC.out _).mono ?_
  rintro r w2 ⟨rfl, h2⟩
  replace HL := Lib.hid (HL.out.call h2)
  clear h2 hbk
  by_cases h : e.N ≤ 1099511627776
  · have HQ := Lib.hid (show jnK e c = macOf K0 e.I c from if_pos h)
    rw [show epChk e.N = 0 from if_pos h]
    have HQ2 := Lib.hid (show epChk e.N = 0 from if_pos h)
    clear h
    have hal := fun (wx : World) (g n : Nat) => run_sliceAt_keyN wx g n
    go_wp2_with fail
    refine wp_region_lexF (fun i => ([0, 0, 0, 2] : List Nat).getD i 0) 4 (by kernel_rfl) (by kernel_rfl) ?_; intro wr hwr
    replace HL := Lib.hid (HL.out.call (show Aft w2 wr by rw [hwr]; exact (Below.refl _ _).drew))
    clear hwr
    repeat (first | (refine lf_skip (by go_big_quiet_skip; exact wpQuiet_nil trivial) (by kernel_rfl) ?_; simp only [Act.put, List.setIfInBounds_toArray, List.set_cons_succ, List.set_cons_zero]) | (refine lf_quiet rfl (by go_big_quiet_want; exact quiet_false (by assumption)) (by kernel_rfl) rfl ?_; intro Kx hKx; go_big_quiet_op; go_big_quiet_on))
    refine lf_eff rfl (by go_big_quiet_want; exact quiet_false (by assumption)) (by kernel_rfl) ?_
    intro wc hc Kx hKx
    replace HL := Lib.hid (HL.out.call hc)
    go_wp2_with fail
    refine (HE.out wc _ _ HL.out.aft (epo_I (HL.out.get 0 rfl) HO.out) (HL.out.key 1 rfl HCl.out)).mono ?_
    rintro r wd ⟨rfl, hd⟩
    go_wp2_with fail
    refine ⟨hd, ?_⟩
    replace HL := Lib.hid (HL.out.call hd)
    clear hd hc
    generalize hX : macOf K0 e.I c = X at HXl HQ ⊢
    refine lf_done ?_
    intro wt ht
    replace HL := Lib.hid (HL.out.call ht)
    clear ht
    go_wp2_with (first | (refine wpList_store_keyZ rfl (.tmp 4) (.tmp 13) rfl _ X HXl.out rfl rfl _ (HL.out.get 2 rfl) key0_size ?_; intro w' b1 b2 b3; replace HL := Lib.hid (HL.out.store 2 rfl b1 b2 b3); clear b1 b2 b3))
    refine bodyPost_ret (results_cell_tmp rfl _ _ _ 23 _ (0, 0) _ rfl (HL.out.get 2 rfl) Tryd.underlying23 rfl (key_info HXl.out)) rfl ?_
    exact ⟨by rw [HQ.out, HQ2.out]; rfl, HL.out.aft⟩
  · have HQ := Lib.hid (show jnK e c = List.replicate 32 0 from if_neg h)
    have HQ2 := Lib.hid (show epChk e.N = 1 from if_neg h)
    rw [HQ2.out]
    clear h
    go_wp2_with (first | (refine wpList_store_keyZ0 rfl (.tmp 4) (.tmp 9) rfl _ rfl rfl _ (HL.out.get 2 rfl) key0_size ?_; intro w' b1 b2 b3; replace HL := Lib.hid (HL.out.store 2 rfl b1 b2 b3); clear b1 b2 b3))
    refine bodyPost_ret (results_cell_tmp rfl _ _ _ 23 _ (0, 0) _ rfl (HL.out.get 2 rfl) Tryd.underlying23 rfl (key_info List.length_replicate)) rfl ?_
    exact ⟨by rw [HQ.out, HQ2.out]; rfl, HL.out.aft⟩
set_option maxRecDepth 100000 in
set_option maxHeartbeats 2000000 in
theorem tag_any (e : Epo) (w : World) (hK : TabK K0 2 w) (ho : e.Ok) :
    Calls Tryd.prog 45 #[.agg (epoL e).toArray] w fun r w' => r = .returned (.tuple #[.agg (bv (tgK e)).toArray, .int .i64 (epChk e.N)]) ∧ Aft w w' := by
  have HK := Lib.hid hK
  have HO := Lib.hid ho
  have HC := Lib.hid (fun wx : World => schedCheck_any e wx)
  have HE := Lib.hid (fun (wx : World) (v1 v2 : Value) (h : Aft w wx) (h1 : Rd wx v1 (bv e.C)) (h2 : RdAll wx v2 [e.H]) => mac_any v1 v2 e.C [e.H] wx (TabK_fr HK.out (Fr.of_below (S := fun _ => False) h) (fun h => h)) h1 h2 (by have := ho.C; omega) (by simp) (by have := ho.H; simp; omega))
  rw [show ([e.H] : List (List (BitVec 8))).flatten = e.H by simp] at HE
  have HXl := Lib.hid (macOf_length K0 e.C e.H)
  have HL := Lib.hid (Led.start w)
  clear hK ho
  go_enter Tryd.func45, Tryd.ntmps45
  go_wp2_with (first | (refine wpList_boxO rfl 55 (.tmp 0) rfl (.agg (epoL e).toArray) rfl (.cells (epoL e).toArray 55) (box_epoch _) ?_; intro w' aa gg zz; replace HL := Lib.hid (HL.out.alloc aa gg.out); clear aa gg zz) | (refine wpList_allocO rfl 23 rfl (.cells key0 23) alloc_key ?_; intro w' aa gg zz; replace HL := Lib.hid (HL.out.alloc aa gg.out); clear aa gg zz) | (refine wpList_load_rowG (by kernel_rfl) 55 (.tmp 1) rfl _ rfl _ _ _ _ (HL.out.get 0 rfl) Tryd.underlying55 rfl (epo_info HO.out) ?_))
  refine (HC.out _).mono ?_
  rintro r w2 ⟨rfl, h2⟩
  replace HL := Lib.hid (HL.out.call h2)
  clear h2
  by_cases h : e.N ≤ 1099511627776
  · have HQ := Lib.hid (show tgK e = macOf K0 e.C e.H from if_pos h)
    rw [show epChk e.N = 0 from if_pos h]
    have HQ2 := Lib.hid (show epChk e.N = 0 from if_pos h)
    clear h
    have hal := fun (wx : World) (g n : Nat) => run_sliceAt_keyN wx g n
    go_wp2_with fail
    refine wp_region_lexF (fun i => ([0, 0, 0, 0, 1, 2] : List Nat).getD i 0) 6 (by kernel_rfl) (by kernel_rfl) ?_; intro wr hwr
    replace HL := Lib.hid (HL.out.call (show Aft w2 wr by rw [hwr]; exact (Below.refl _ _).drew))
    clear hwr
    repeat (first | (refine lf_skip (by go_big_quiet_skip; exact wpQuiet_nil trivial) (by kernel_rfl) ?_; simp only [Act.put, List.setIfInBounds_toArray, List.set_cons_succ, List.set_cons_zero]) | (refine lf_quiet rfl (by go_big_quiet_want; exact quiet_false (by assumption)) (by kernel_rfl) rfl ?_; intro Kx hKx; go_big_quiet_op; go_big_quiet_on))
    refine lf_fresh (.cells #[.slice (some ⟨w.heap.size, 129, none⟩) 32 32] 24) (fun g => .slice (some ⟨g, 0, none⟩) 1 1) rfl (by kernel_rfl) (fun w1 => by kernel_rfl) ?_
    intro wa ga ha1 ha2 ha3
    simp only [Act.put, List.setIfInBounds_toArray, List.set_cons_succ, List.set_cons_zero]
    replace HL := Lib.hid (HL.out.call ha1)
    have HB := Lib.hid ha3
    clear ha1 ha2 ha3
    refine lf_eff rfl (by go_big_quiet_want; exact quiet_false (by assumption)) (by kernel_rfl) ?_
    intro wc hc Kx hKx
    replace HL := Lib.hid (HL.out.call hc)
    go_wp2_with fail
    refine (HE.out wc _ _ HL.out.aft (epo_C (HL.out.get 0 rfl) HO.out) (RdAll.blk (Aft.get hc HB.out) (epo_H (HL.out.get 0 rfl) HO.out))).mono ?_
    rintro r wd ⟨rfl, hd⟩
    go_wp2_with fail
    refine ⟨hd, ?_⟩
    replace HL := Lib.hid (HL.out.call hd)
    clear hd hc
    generalize hX : macOf K0 e.C e.H = X at HXl HQ ⊢
    refine lf_done ?_
    intro wt ht
    replace HL := Lib.hid (HL.out.call ht)
    clear ht
    go_wp2_with (first | (refine wpList_store_keyZ rfl (.tmp 2) (.tmp 16) rfl _ X HXl.out rfl rfl _ (HL.out.get 1 rfl) key0_size ?_; intro w' b1 b2 b3; replace HL := Lib.hid (HL.out.store 1 rfl b1 b2 b3); clear b1 b2 b3))
    refine bodyPost_ret (results_cell_tmp rfl _ _ _ 23 _ (0, 0) _ rfl (HL.out.get 1 rfl) Tryd.underlying23 rfl (key_info HXl.out)) rfl ?_
    exact ⟨by rw [HQ.out, HQ2.out]; rfl, HL.out.aft⟩
  · have HQ := Lib.hid (show tgK e = List.replicate 32 0 from if_neg h)
    have HQ2 := Lib.hid (show epChk e.N = 1 from if_neg h)
    rw [HQ2.out]
    clear h
    go_wp2_with (first | (refine wpList_store_keyZ0 rfl (.tmp 2) (.tmp 9) rfl _ rfl rfl _ (HL.out.get 1 rfl) key0_size ?_; intro w' b1 b2 b3; replace HL := Lib.hid (HL.out.store 1 rfl b1 b2 b3); clear b1 b2 b3))
    refine bodyPost_ret (results_cell_tmp rfl _ _ _ 23 _ (0, 0) _ rfl (HL.out.get 1 rfl) Tryd.underlying23 rfl (key_info List.length_replicate)) rfl ?_
    exact ⟨by rw [HQ.out, HQ2.out]; rfl, HL.out.aft⟩
set_option maxRecDepth 100000 in
set_option maxHeartbeats 2000000 in
theorem refTag_any (e : Epo) (w : World) (hK : TabK K0 0 w) (ho : e.Ok) :
    Calls Tryd.prog 46 #[.agg (epoL e).toArray] w fun r w' => r = .returned (.tuple #[.agg (bv (tgK e)).toArray, .int .i64 (epChk e.N)]) ∧ Aft w w' := by
  have HK := Lib.hid hK
  have HO := Lib.hid ho
  have HC := Lib.hid (fun wx : World => refSchedCheck_any e wx)
  have HE := Lib.hid (fun (wx : World) (v1 v2 : Value) (h : Aft w wx) (h1 : Rd wx v1 (bv e.C)) (h2 : RdAll wx v2 [e.H]) => refMac_any v1 v2 e.C [e.H] wx (TabK_fr HK.out (Fr.of_below (S := fun _ => False) h) (fun h => h)) h1 h2 (by have := ho.C; omega) (by have := ho.H; simp; omega))
  rw [show ([e.H] : List (List (BitVec 8))).flatten = e.H by simp] at HE
  have HXl := Lib.hid (macOf_length K0 e.C e.H)
  have HL := Lib.hid (Led.start w)
  clear hK ho
  go_enter Tryd.func46, Tryd.ntmps46
  go_wp2_with (first | (refine wpList_boxO rfl 55 (.tmp 0) rfl (.agg (epoL e).toArray) rfl (.cells (epoL e).toArray 55) (box_epoch _) ?_; intro w' aa gg zz; replace HL := Lib.hid (HL.out.alloc aa gg.out); clear aa gg zz) | (refine wpList_allocO rfl 23 rfl (.cells key0 23) alloc_key ?_; intro w' aa gg zz; replace HL := Lib.hid (HL.out.alloc aa gg.out); clear aa gg zz) | (refine wpList_load_rowG (by kernel_rfl) 55 (.tmp 1) rfl _ rfl _ _ _ _ (HL.out.get 0 rfl) Tryd.underlying55 rfl (epo_info HO.out) ?_))
  refine (HC.out _).mono ?_
  rintro r w2 ⟨rfl, h2⟩
  replace HL := Lib.hid (HL.out.call h2)
  clear h2
  by_cases h : e.N ≤ 1099511627776
  · have HQ := Lib.hid (show tgK e = macOf K0 e.C e.H from if_pos h)
    rw [show epChk e.N = 0 from if_pos h]
    have HQ2 := Lib.hid (show epChk e.N = 0 from if_pos h)
    clear h
    have hal := fun (wx : World) (g n : Nat) => run_sliceAt_keyN wx g n
    go_wp2_with fail
    refine wp_region_lexF (fun i => ([0, 0, 0, 0, 1, 2] : List Nat).getD i 0) 6 (by kernel_rfl) (by kernel_rfl) ?_; intro wr hwr
    replace HL := Lib.hid (HL.out.call (show Aft w2 wr by rw [hwr]; exact (Below.refl _ _).drew))
    clear hwr
    repeat (first | (refine lf_skip (by go_big_quiet_skip; exact wpQuiet_nil trivial) (by kernel_rfl) ?_; simp only [Act.put, List.setIfInBounds_toArray, List.set_cons_succ, List.set_cons_zero]) | (refine lf_quiet rfl (by go_big_quiet_want; exact quiet_false (by assumption)) (by kernel_rfl) rfl ?_; intro Kx hKx; go_big_quiet_op; go_big_quiet_on))
    refine lf_fresh (.cells #[.slice (some ⟨w.heap.size, 129, none⟩) 32 32] 24) (fun g => .slice (some ⟨g, 0, none⟩) 1 1) rfl (by kernel_rfl) (fun w1 => by kernel_rfl) ?_
    intro wa ga ha1 ha2 ha3
    simp only [Act.put, List.setIfInBounds_toArray, List.set_cons_succ, List.set_cons_zero]
    replace HL := Lib.hid (HL.out.call ha1)
    have HB := Lib.hid ha3
    clear ha1 ha2 ha3
    refine lf_eff rfl (by go_big_quiet_want; exact quiet_false (by assumption)) (by kernel_rfl) ?_
    intro wc hc Kx hKx
    replace HL := Lib.hid (HL.out.call hc)
    go_wp2_with fail
    refine (HE.out wc _ _ HL.out.aft (epo_C (HL.out.get 0 rfl) HO.out) (RdAll.blk (Aft.get hc HB.out) (epo_H (HL.out.get 0 rfl) HO.out))).mono ?_
    rintro r wd ⟨rfl, hd⟩
    go_wp2_with fail
    refine ⟨hd, ?_⟩
    replace HL := Lib.hid (HL.out.call hd)
    clear hd hc
    generalize hX : macOf K0 e.C e.H = X at HXl HQ ⊢
    refine lf_done ?_
    intro wt ht
    replace HL := Lib.hid (HL.out.call ht)
    clear ht
    go_wp2_with (first | (refine wpList_store_keyZ rfl (.tmp 2) (.tmp 13) rfl _ X HXl.out rfl rfl _ (HL.out.get 1 rfl) key0_size ?_; intro w' b1 b2 b3; replace HL := Lib.hid (HL.out.store 1 rfl b1 b2 b3); clear b1 b2 b3))
    refine bodyPost_ret (results_cell_tmp rfl _ _ _ 23 _ (0, 0) _ rfl (HL.out.get 1 rfl) Tryd.underlying23 rfl (key_info HXl.out)) rfl ?_
    exact ⟨by rw [HQ.out, HQ2.out]; rfl, HL.out.aft⟩
  · have HQ := Lib.hid (show tgK e = List.replicate 32 0 from if_neg h)
    have HQ2 := Lib.hid (show epChk e.N = 1 from if_neg h)
    rw [HQ2.out]
    clear h
    go_wp2_with (first | (refine wpList_store_keyZ0 rfl (.tmp 2) (.tmp 7) rfl _ rfl rfl _ (HL.out.get 1 rfl) key0_size ?_; intro w' b1 b2 b3; replace HL := Lib.hid (HL.out.store 1 rfl b1 b2 b3); clear b1 b2 b3))
    refine bodyPost_ret (results_cell_tmp rfl _ _ _ 23 _ (0, 0) _ rfl (HL.out.get 1 rfl) Tryd.underlying23 rfl (key_info List.length_replicate)) rfl ?_
    exact ⟨by rw [HQ.out, HQ2.out]; rfl, HL.out.aft⟩
set_option maxRecDepth 100000 in
set_option maxHeartbeats 2000000 in
theorem hash_any (e : Epo) (vt : Value) (t : List (BitVec 8)) (w : World) (hK : TabK K0 2 w) (ho : e.Ok) (hr : Rd w vt (bv t)) :
    Calls Tryd.prog 38 #[.agg (epoL e).toArray, vt] w fun r w' => r = .returned (.tuple #[.agg (bv (hsK e t)).toArray, .int .i64 (hsE e t)]) ∧ Aft w w' := by
  have HK := Lib.hid hK
  have HO := Lib.hid ho
  have HR := Lib.hid hr
  have HC := Lib.hid (fun wx : World => schedCheck_any e wx)
  have HS := Lib.hid (fun (wx : World) (v : Value) (x : List (List (BitVec 8))) (h : Aft w wx) (h1 : RdAll wx v x) (h2 : x.flatten.length ≤ 1099511627776) => sum_any K0 v x wx (TabK_fr HK.out (Fr.of_below (S := fun _ => False) h) (fun h => h)) h1 h2)
  obtain ⟨at', ct, rfl, -, -, -, -⟩ := hr
  have HL := Lib.hid (Led.start w)
  clear hK ho
  rw [bv_length] at HR ⊢
  go_enter Tryd.func38, Tryd.ntmps38
  go_wp2_with (first | (refine wpList_boxO rfl 55 (.tmp 0) rfl (.agg (epoL e).toArray) rfl (.cells (epoL e).toArray 55) (box_epoch _) ?_; intro w' aa gg zz; replace HL := Lib.hid (HL.out.alloc aa gg.out); clear aa gg zz) | (refine wpList_allocO rfl 23 rfl (.cells key0 23) alloc_key ?_; intro w' aa gg zz; replace HL := Lib.hid (HL.out.alloc aa gg.out); clear aa gg zz) | (refine wpList_load_rowG (by kernel_rfl) 55 (.tmp 2) rfl _ rfl _ _ _ _ (HL.out.get 0 rfl) Tryd.underlying55 rfl (epo_info HO.out) ?_))
  refine (HC.out _).mono ?_
  rintro r w2 ⟨rfl, h2⟩
  replace HL := Lib.hid (HL.out.call h2)
  clear h2
  by_cases h : e.N ≤ 1099511627776
  · rw [show epChk e.N = 0 from if_pos h]
    by_cases h3 : (1048576 : Int) < (t.length : Nat)
    · have HQ := Lib.hid (show hsK e t = List.replicate 32 0 from if_neg (by omega))
      have HQ2 := Lib.hid (show hsE e t = 4 from by unfold hsE; rw [if_neg (by omega), if_pos (by omega)])
      clear h
      go_wp2_with (first | (refine wpList_store_keyZ0 rfl (.tmp 4) (.tmp 17) rfl _ rfl rfl _ (HL.out.get 1 rfl) key0_size ?_; intro w' b1 b2 b3; replace HL := Lib.hid (HL.out.store 1 rfl b1 b2 b3); clear b1 b2 b3))
      refine bodyPost_ret (results_cell_tmp rfl _ _ _ 23 _ (0, 0) _ rfl (HL.out.get 1 rfl) Tryd.underlying23 rfl (key_info List.length_replicate)) rfl ?_
      exact ⟨by rw [HQ.out, HQ2.out]; rfl, HL.out.aft⟩
    · have HQ := Lib.hid (show hsK e t = digest K0 (e.H ++ digest K0 t) from if_pos ⟨h, by omega⟩)
      have HQ2 := Lib.hid (show hsE e t = 0 from by unfold hsE; rw [if_neg (by omega), if_neg (by omega)])
      have HT := Lib.hid (show t.length ≤ 1048576 by omega)
      clear h
      go_wp2_with fail
      refine (HS.out _ _ [t] (Aft.trans HL.out.aft (Aft.alloc _ _)) (RdAll.one _ _ _ _ (HR.out.grow HL.out.aft)) (by have := HT.out; simp; omega)).mono ?_
      rintro r w3 ⟨rfl, h4⟩
      rw [show ([t] : List (List (BitVec 8))).flatten = t by simp]
      replace HL := Lib.hid (HL.out.call (Aft.trans (Aft.alloc _ _) h4))
      clear h4
      have HXl := Lib.hid (digest_length K0 t)
      have HYl := Lib.hid (digest_length K0 (e.H ++ digest K0 t))
      generalize hX : digest K0 t = X at HXl HYl HQ ⊢
      have hal := fun (wx : World) (g n : Nat) => run_sliceAt_keyN wx g n
      go_wp2_with (first | (refine wpList_allocO rfl 23 rfl (.cells key0 23) alloc_key ?_; intro w' aa gg zz; replace HL := Lib.hid (HL.out.alloc aa gg.out); clear aa gg zz) | (refine wpList_store_keyZ rfl (.tmp 7) (.tmp 20) rfl _ X HXl.out rfl rfl _ (HL.out.get 2 rfl) key0_size ?_; intro w' b1 b2 b3; replace HL := Lib.hid (HL.out.store 2 rfl b1 b2 b3); clear b1 b2 b3))
      simp only [Act.put, List.setIfInBounds_toArray, List.set_cons_succ, List.set_cons_zero]
      refine wp_region_lexF (fun i => ([0, 0, 0, 1, 2] : List Nat).getD i 0) 5 (by kernel_rfl) (by kernel_rfl) ?_; intro wr hwr
      replace HL := Lib.hid (HL.out.call (show Aft _ wr by rw [hwr]; exact (Below.refl _ _).drew))
      clear hwr
      repeat (first | (refine lf_skip (by go_big_quiet_skip; exact wpQuiet_nil trivial) (by kernel_rfl) ?_; simp only [Act.put, List.setIfInBounds_toArray, List.set_cons_succ, List.set_cons_zero]) | (refine lf_quiet rfl (by go_big_quiet_want; exact quiet_false (by assumption)) (by kernel_rfl) rfl ?_; intro Kx hKx; go_big_quiet_op; go_big_quiet_on))
      refine lf_fresh (.cells #[.slice (some ⟨w.heap.size, 129, none⟩) 32 32, .slice (some ⟨w3.heap.size, 0, none⟩) 32 32] 24) (fun g => .slice (some ⟨g, 0, none⟩) 2 2) rfl (by kernel_rfl) (fun w1 => by kernel_rfl) ?_
      intro wa ga ha1 ha2 ha3
      simp only [Act.put, List.setIfInBounds_toArray, List.set_cons_succ, List.set_cons_zero]
      replace HL := Lib.hid (HL.out.call ha1)
      have HB := Lib.hid ha3
      clear ha1 ha2 ha3
      refine lf_eff rfl (by go_big_quiet_want; exact quiet_false (by assumption)) (by kernel_rfl) ?_
      intro wc hc Kx hKx
      replace HL := Lib.hid (HL.out.call hc)
      go_wp2_with fail
      refine (HS.out wc _ [e.H, X] HL.out.aft (RdAll.two (Aft.get hc HB.out) (epo_H (HL.out.get 0 rfl) HO.out) (HL.out.key 2 rfl HXl.out)) (by have := HO.out.H; have := HXl.out; simp; omega)).mono ?_
      rintro r wd ⟨rfl, hd⟩
      rw [show ([e.H, X] : List (List (BitVec 8))).flatten = e.H ++ X by simp]
      go_wp2_with fail
      refine ⟨hd, ?_⟩
      replace HL := Lib.hid (HL.out.call hd)
      clear hd hc
      generalize hY : digest K0 (e.H ++ X) = Y at HYl HQ ⊢
      refine lf_done ?_
      intro wt ht
      replace HL := Lib.hid (HL.out.call ht)
      clear ht
      go_wp2_with (first | (refine wpList_store_keyZ rfl (.tmp 4) (.tmp 25) rfl _ Y HYl.out rfl rfl _ (HL.out.get 1 rfl) key0_size ?_; intro w' b1 b2 b3; replace HL := Lib.hid (HL.out.store 1 rfl b1 b2 b3); clear b1 b2 b3))
      refine bodyPost_ret (results_cell_tmp rfl _ _ _ 23 _ (0, 0) _ rfl (HL.out.get 1 rfl) Tryd.underlying23 rfl (key_info HYl.out)) rfl ?_
      exact ⟨by rw [HQ.out, HQ2.out]; rfl, HL.out.aft⟩
  · have HQ := Lib.hid (show hsK e t = List.replicate 32 0 from if_neg (by omega))
    have HQ2 := Lib.hid (show hsE e t = 1 from by unfold hsE; rw [if_pos (by omega)])
    rw [show epChk e.N = 1 from if_neg h]
    clear h
    go_wp2_with (first | (refine wpList_store_keyZ0 rfl (.tmp 4) (.tmp 12) rfl _ rfl rfl _ (HL.out.get 1 rfl) key0_size ?_; intro w' b1 b2 b3; replace HL := Lib.hid (HL.out.store 1 rfl b1 b2 b3); clear b1 b2 b3))
    refine bodyPost_ret (results_cell_tmp rfl _ _ _ 23 _ (0, 0) _ rfl (HL.out.get 1 rfl) Tryd.underlying23 rfl (key_info List.length_replicate)) rfl ?_
    exact ⟨by rw [HQ.out, HQ2.out]; rfl, HL.out.aft⟩
set_option maxRecDepth 100000 in
set_option maxHeartbeats 2000000 in
theorem refHash_any (e : Epo) (vt : Value) (t : List (BitVec 8)) (w : World) (hK : TabK K0 0 w) (ho : e.Ok) (hr : Rd w vt (bv t)) :
    Calls Tryd.prog 44 #[.agg (epoL e).toArray, vt] w fun r w' => r = .returned (.tuple #[.agg (bv (hsK e t)).toArray, .int .i64 (hsE e t)]) ∧ Aft w w' := by
  have HK := Lib.hid hK
  have HO := Lib.hid ho
  have HR := Lib.hid hr
  have HC := Lib.hid (fun wx : World => refSchedCheck_any e wx)
  have HS := Lib.hid (fun (wx : World) (v : Value) (x : List (List (BitVec 8))) (h : Aft w wx) (h1 : RdAll wx v x) (h2 : x.flatten.length ≤ 1099511627776) => refSum_any v x wx (TabK_fr HK.out (Fr.of_below (S := fun _ => False) h) (fun h => h)) h1 h2)
  obtain ⟨at', ct, rfl, -, -, -, -⟩ := hr
  have HL := Lib.hid (Led.start w)
  clear hK ho
  rw [bv_length] at HR ⊢
  go_enter Tryd.func44, Tryd.ntmps44
  go_wp2_with (first | (refine wpList_boxO rfl 55 (.tmp 0) rfl (.agg (epoL e).toArray) rfl (.cells (epoL e).toArray 55) (box_epoch _) ?_; intro w' aa gg zz; replace HL := Lib.hid (HL.out.alloc aa gg.out); clear aa gg zz) | (refine wpList_allocO rfl 23 rfl (.cells key0 23) alloc_key ?_; intro w' aa gg zz; replace HL := Lib.hid (HL.out.alloc aa gg.out); clear aa gg zz) | (refine wpList_load_rowG (by kernel_rfl) 55 (.tmp 2) rfl _ rfl _ _ _ _ (HL.out.get 0 rfl) Tryd.underlying55 rfl (epo_info HO.out) ?_))
  refine (HC.out _).mono ?_
  rintro r w2 ⟨rfl, h2⟩
  replace HL := Lib.hid (HL.out.call h2)
  clear h2
  by_cases h : e.N ≤ 1099511627776
  · rw [show epChk e.N = 0 from if_pos h]
    by_cases h3 : (1048576 : Int) < (t.length : Nat)
    · have HQ := Lib.hid (show hsK e t = List.replicate 32 0 from if_neg (by omega))
      have HQ2 := Lib.hid (show hsE e t = 4 from by unfold hsE; rw [if_neg (by omega), if_pos (by omega)])
      clear h
      go_wp2_with (first | (refine wpList_store_keyZ0 rfl (.tmp 4) (.tmp 14) rfl _ rfl rfl _ (HL.out.get 1 rfl) key0_size ?_; intro w' b1 b2 b3; replace HL := Lib.hid (HL.out.store 1 rfl b1 b2 b3); clear b1 b2 b3))
      refine bodyPost_ret (results_cell_tmp rfl _ _ _ 23 _ (0, 0) _ rfl (HL.out.get 1 rfl) Tryd.underlying23 rfl (key_info List.length_replicate)) rfl ?_
      exact ⟨by rw [HQ.out, HQ2.out]; rfl, HL.out.aft⟩
    · have HQ := Lib.hid (show hsK e t = digest K0 (e.H ++ digest K0 t) from if_pos ⟨h, by omega⟩)
      have HQ2 := Lib.hid (show hsE e t = 0 from by unfold hsE; rw [if_neg (by omega), if_neg (by omega)])
      have HT := Lib.hid (show t.length ≤ 1048576 by omega)
      clear h
      go_wp2_with fail
      refine (HS.out _ _ [t] (Aft.trans HL.out.aft (Aft.alloc _ _)) (RdAll.one _ _ _ _ (HR.out.grow HL.out.aft)) (by have := HT.out; simp; omega)).mono ?_
      rintro r w3 ⟨rfl, h4⟩
      rw [show ([t] : List (List (BitVec 8))).flatten = t by simp]
      replace HL := Lib.hid (HL.out.call (Aft.trans (Aft.alloc _ _) h4))
      clear h4
      have HXl := Lib.hid (digest_length K0 t)
      have HYl := Lib.hid (digest_length K0 (e.H ++ digest K0 t))
      generalize hX : digest K0 t = X at HXl HYl HQ ⊢
      have hal := fun (wx : World) (g n : Nat) => run_sliceAt_keyN wx g n
      go_wp2_with (first | (refine wpList_allocO rfl 23 rfl (.cells key0 23) alloc_key ?_; intro w' aa gg zz; replace HL := Lib.hid (HL.out.alloc aa gg.out); clear aa gg zz) | (refine wpList_store_keyZ rfl (.tmp 6) (.tmp 17) rfl _ X HXl.out rfl rfl _ (HL.out.get 2 rfl) key0_size ?_; intro w' b1 b2 b3; replace HL := Lib.hid (HL.out.store 2 rfl b1 b2 b3); clear b1 b2 b3))
      simp only [Act.put, List.setIfInBounds_toArray, List.set_cons_succ, List.set_cons_zero]
      refine wp_region_lexF (fun i => ([0, 0, 0, 1, 2] : List Nat).getD i 0) 5 (by kernel_rfl) (by kernel_rfl) ?_; intro wr hwr
      replace HL := Lib.hid (HL.out.call (show Aft _ wr by rw [hwr]; exact (Below.refl _ _).drew))
      clear hwr
      repeat (first | (refine lf_skip (by go_big_quiet_skip; exact wpQuiet_nil trivial) (by kernel_rfl) ?_; simp only [Act.put, List.setIfInBounds_toArray, List.set_cons_succ, List.set_cons_zero]) | (refine lf_quiet rfl (by go_big_quiet_want; exact quiet_false (by assumption)) (by kernel_rfl) rfl ?_; intro Kx hKx; go_big_quiet_op; go_big_quiet_on))
      refine lf_fresh (.cells #[.slice (some ⟨w.heap.size, 129, none⟩) 32 32, .slice (some ⟨w3.heap.size, 0, none⟩) 32 32] 24) (fun g => .slice (some ⟨g, 0, none⟩) 2 2) rfl (by kernel_rfl) (fun w1 => by kernel_rfl) ?_
      intro wa ga ha1 ha2 ha3
      simp only [Act.put, List.setIfInBounds_toArray, List.set_cons_succ, List.set_cons_zero]
      replace HL := Lib.hid (HL.out.call ha1)
      have HB := Lib.hid ha3
      clear ha1 ha2 ha3
      refine lf_eff rfl (by go_big_quiet_want; exact quiet_false (by assumption)) (by kernel_rfl) ?_
      intro wc hc Kx hKx
      replace HL := Lib.hid (HL.out.call hc)
      go_wp2_with fail
      refine (HS.out wc _ [e.H, X] HL.out.aft (RdAll.two (Aft.get hc HB.out) (epo_H (HL.out.get 0 rfl) HO.out) (HL.out.key 2 rfl HXl.out)) (by have := HO.out.H; have := HXl.out; simp; omega)).mono ?_
      rintro r wd ⟨rfl, hd⟩
      rw [show ([e.H, X] : List (List (BitVec 8))).flatten = e.H ++ X by simp]
      go_wp2_with fail
      refine ⟨hd, ?_⟩
      replace HL := Lib.hid (HL.out.call hd)
      clear hd hc
      generalize hY : digest K0 (e.H ++ X) = Y at HYl HQ ⊢
      refine lf_done ?_
      intro wt ht
      replace HL := Lib.hid (HL.out.call ht)
      clear ht
      go_wp2_with (first | (refine wpList_store_keyZ rfl (.tmp 4) (.tmp 22) rfl _ Y HYl.out rfl rfl _ (HL.out.get 1 rfl) key0_size ?_; intro w' b1 b2 b3; replace HL := Lib.hid (HL.out.store 1 rfl b1 b2 b3); clear b1 b2 b3))
      refine bodyPost_ret (results_cell_tmp rfl _ _ _ 23 _ (0, 0) _ rfl (HL.out.get 1 rfl) Tryd.underlying23 rfl (key_info HYl.out)) rfl ?_
      exact ⟨by rw [HQ.out, HQ2.out]; rfl, HL.out.aft⟩
  · have HQ := Lib.hid (show hsK e t = List.replicate 32 0 from if_neg (by omega))
    have HQ2 := Lib.hid (show hsE e t = 1 from by unfold hsE; rw [if_pos (by omega)])
    rw [show epChk e.N = 1 from if_neg h]
    clear h
    go_wp2_with (first | (refine wpList_store_keyZ0 rfl (.tmp 4) (.tmp 10) rfl _ rfl rfl _ (HL.out.get 1 rfl) key0_size ?_; intro w' b1 b2 b3; replace HL := Lib.hid (HL.out.store 1 rfl b1 b2 b3); clear b1 b2 b3))
    refine bodyPost_ret (results_cell_tmp rfl _ _ _ 23 _ (0, 0) _ rfl (HL.out.get 1 rfl) Tryd.underlying23 rfl (key_info List.length_replicate)) rfl ?_
    exact ⟨by rw [HQ.out, HQ2.out]; rfl, HL.out.aft⟩
end Go.Proofs.YtanodhagpegbfaaDoor
