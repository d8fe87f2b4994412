/- The law SchedMeets. -/
import Derived.Test.YtanodhagpegbfaaDoorLive14
namespace Go.Proofs.YtanodhagpegbfaaDoor
open Go Go.RowKit
theorem hsE_few {e : Epo} {x : List (BitVec 8)} (h : x.length ≤ 3000) : hsE e x = if 1099511627776 < e.N then 1 else 0 := by
  unfold hsE
  split
  · rfl
  · rw [if_neg (by omega)]
theorem nxtE_good {e : Epo} {c t x : List (BitVec 8)} (h : e.N < 1099511627776) (hx : x.length ≤ 3000) : nxtE e c t x = enE (jnK e c) (e.N + 1) t (hsK e x) :=
  if_neg (by rw [hsE_few hx, if_neg (by omega)]; simp; omega)
set_option maxRecDepth 100000 in
set_option maxHeartbeats 8000000 in
theorem schedMeets_any (e : Epo) (c t : List (BitVec 8)) (vx : Value) (x : List (BitVec 8)) (w : World) (hK : TabK K0 2 w) (ho : e.Ok) (hc : c.length = 32) (ht : t.length = 32) (hr : Rd w vx (bv x)) :
    Calls Tryd.prog 12 #[.agg (epoL e).toArray, .agg (bv c).toArray, .agg (bv t).toArray, vx] w fun r w' => r = .returned (.bool true) ∧ Below w.heap.size w w' := by
  have HK := Lib.hid hK
  have HO := Lib.hid ho
  have HCl := Lib.hid hc
  have HTl := Lib.hid ht
  have HLv := Lib.hid (fun (wx : World) (h : Aft w wx) => live14_any wx (TabK_fr HK.out (Fr.of_below (S := fun _ => False) h) (fun h => h)))
  have HN := Lib.hid (fun (wx : World) (h : Aft w wx) => nextE_any e c t vx x wx (TabK_fr HK.out (Fr.of_below (S := fun _ => False) h) (fun h => h)) ho hc ht (hr.grow h))
  have HH := Lib.hid (fun (wx : World) (h : Aft w wx) => hash_any e vx x wx (TabK_fr HK.out (Fr.of_below (S := fun _ => False) h) (fun h => h)) ho (hr.grow h))
  have HJ := Lib.hid (fun (wx : World) (h : Aft w wx) => joiner_any e c wx (TabK_fr HK.out (Fr.of_below (S := fun _ => False) h) (fun h => h)) ho hc)
  have HQA := Lib.hid (show x.length ≤ 3000 → 1099511627776 < e.N → nxtF e x = 1 from fun h h1 => by unfold nxtF; rw [if_neg (by omega), hsE_few h, if_pos h1])
  have HQB := Lib.hid (show e.N = 1099511627776 → nxtF e x = 8 from fun h => if_pos h)
  have HEo := Lib.hid (nxtE_ok e c t x)
  have HHl := Lib.hid (hsK_length e x)
  have HJl := Lib.hid (jnK_length e c)
  have HQC := Lib.hid (show x.length ≤ 3000 → e.N < 1099511627776 → nxtF e x = 0 ∧ hsE e x = 0 ∧ epChk e.N = 0 ∧ (nxtE e c t x).N = e.N + 1 ∧ (nxtE e c t x).H = hsK e x ∧ epChk (nxtE e c t x).N = 0 ∧ tgK (nxtE e c t x) = macOf K0 (nxtE e c t x).C (hsK e x) ∧
      (∀ wx : World, Aft w wx → Calls Tryd.prog 39 #[.agg (bv (jnK e c)).toArray, .int .u64 ((e.N : Int) + 1), .agg (bv t).toArray, .agg (bv (hsK e x)).toArray] wx fun r w' => r = .returned (.tuple #[.agg (epoL (nxtE e c t x)).toArray, .int .i64 0]) ∧ Aft wx w') from fun h h1 => by
    have a1 : hsE e x = 0 := by rw [hsE_few h, if_neg (by omega)]
    have a2 : (enE (jnK e c) (e.N + 1) t (hsK e x)).N = e.N + 1 := by rw [enE_good (by omega)]
    have a3 : (enE (jnK e c) (e.N + 1) t (hsK e x)).H = hsK e x := by rw [enE_good (by omega)]
    rw [nxtE_good h1 h]
    refine ⟨by unfold nxtF; rw [if_neg (by omega), a1], a1, if_pos (by omega), a2, a3, by rw [a2]; exact if_pos (by omega), ?_, fun wx ha => ?_⟩
    · unfold tgK
      rw [if_pos (by rw [a2]; omega), a3]
    · have := enter_any (jnK e c) t (hsK e x) (e.N + 1) wx (TabK_fr HK.out (Fr.of_below (S := fun _ => False) ha) (fun h => h)) HJl.out HTl.out HHl.out (by omega)
      rw [show epChk (e.N + 1) = 0 from if_pos (by omega)] at this
      exact this)
  generalize nxtE e c t x = E at *
  have HT := Lib.hid (fun (wx : World) (h : Aft w wx) => tag_any E wx (TabK_fr HK.out (Fr.of_below (S := fun _ => False) h) (fun h => h)) HEo.out)
  have HCk := Lib.hid (fun (wx : World) => schedCheck_any E wx)
  have HM := Lib.hid (fun (wx : World) (v1 v2 : Value) (h : Aft w wx) (h1 : Rd wx v1 (bv E.C)) (h2 : RdAll wx v2 [hsK e x]) => mac_any v1 v2 E.C [hsK e x] wx (TabK_fr HK.out (Fr.of_below (S := fun _ => False) h) (fun h => h)) h1 h2 (by have := HEo.out.C; omega) (by simp) (by have := HHl.out; simp; omega))
  rw [show ([hsK e x] : List (List (BitVec 8))).flatten = hsK e x by simp] at HM
  have HTl2 := Lib.hid (show (tgK E).length = 32 from by unfold tgK; split; exact macOf_length _ _ _; exact List.length_replicate)
  obtain ⟨ax, cx, rfl, -, -, -, -⟩ := hr
  have HL := Lib.hid (Led.start w)
  clear hK ho hc ht
  rw [bv_length] at HN HH ⊢
  generalize nxtF e x = F at *
  generalize hsK e x = H at *
  generalize hsE e x = f at *
  generalize jnK e c = J at *
  go_enter Tryd.func12, Tryd.ntmps12
  go_wp2_with (first | (refine wpList_boxO rfl 55 (.tmp 0) rfl (.agg (epoL e).toArray) rfl (.cells (epoL e).toArray 55) (box_epoch _) ?_; intro w' aa gg zz; replace HL := Lib.hid (HL.out.alloc aa gg.out); clear aa gg zz) | (refine wpList_boxO rfl 23 (.tmp 1) rfl (.agg (bv c).toArray) rfl (.cells (bv c).toArray 23) (box_key _) ?_; intro w' aa gg zz; replace HL := Lib.hid (HL.out.alloc aa gg.out); clear aa gg zz) | (refine wpList_boxO rfl 23 (.tmp 2) rfl (.agg (bv t).toArray) rfl (.cells (bv t).toArray 23) (box_key _) ?_; intro w' aa gg zz; replace HL := Lib.hid (HL.out.alloc aa gg.out); clear aa gg zz))
  refine (HLv.out _ HL.out.aft).mono ?_
  rintro r w2 ⟨rfl, h2⟩
  replace HL := Lib.hid (HL.out.call h2)
  clear h2
  by_cases h1 : (3000 : Int) < (x.length : Nat)
  · go_wp2_with fail
    go_ret
    exact ⟨rfl, HL.out.aft⟩
  · have hx3 := Lib.hid (show x.length ≤ 3000 by omega)
    go_wp2_with (first | (refine wpList_load_rowG (by kernel_rfl) 55 (.tmp 4) rfl _ rfl _ _ _ _ (HL.out.get 0 rfl) Tryd.underlying55 rfl (epo_info HO.out) ?_) | (refine wpList_load_rowG (by kernel_rfl) 23 (.tmp 5) rfl _ rfl _ _ _ _ (HL.out.get 1 rfl) Tryd.underlying23 rfl (key_info HCl.out) ?_) | (refine wpList_load_rowG (by kernel_rfl) 23 (.tmp 6) rfl _ rfl _ _ _ _ (HL.out.get 2 rfl) Tryd.underlying23 rfl (key_info HTl.out) ?_))
    refine (HN.out _ HL.out.aft).mono ?_
    rintro r w3 ⟨rfl, h3⟩
    replace HL := Lib.hid (HL.out.call h3)
    clear h3 h1
    by_cases hA : (1099511627776 : Int) < (e.N : Int)
    · obtain rfl := HQA.out hx3.out (by omega)
      have hB : ¬ (e.N : Int) = 1099511627776 := by omega
      go_wp2_with (first | (refine wpList_allocO rfl 55 rfl (.cells (epoL zE).toArray 55) alloc_epoch ?_; intro w' aa gg zz; replace HL := Lib.hid (HL.out.alloc aa gg.out); clear aa gg zz) | (refine wpList_store_epoZ rfl (.tmp 10) (.tmp 35) rfl _ _ HEo.out rfl rfl _ (HL.out.get 3 rfl) (zE_ok) ?_; intro w' b1 b2 b3; replace HL := Lib.hid (HL.out.store 3 rfl b1 b2 b3); clear b1 b2 b3; have hn := epo_n (HL.out.get 0 rfl)))
      go_ret
      exact ⟨by simp; omega, HL.out.aft⟩
    · by_cases hB : (e.N : Int) = 1099511627776
      · obtain rfl := HQB.out (by omega)
        go_wp2_with (first | (refine wpList_allocO rfl 55 rfl (.cells (epoL zE).toArray 55) alloc_epoch ?_; intro w' aa gg zz; replace HL := Lib.hid (HL.out.alloc aa gg.out); clear aa gg zz) | (refine wpList_store_epoZ rfl (.tmp 10) (.tmp 35) rfl _ _ HEo.out rfl rfl _ (HL.out.get 3 rfl) (zE_ok) ?_; intro w' b1 b2 b3; replace HL := Lib.hid (HL.out.store 3 rfl b1 b2 b3); clear b1 b2 b3; have hn := epo_n (HL.out.get 0 rfl)))
        go_ret
        exact ⟨by simp, HL.out.aft⟩
      · obtain ⟨rfl, rfl, q3, q4, q5, q6, q7, q8⟩ := HQC.out hx3.out (by omega)
        have HEN := Lib.hid (show (E.N : Int) = (e.N : Int) + 1 by omega)
        have HEH := Lib.hid q5
        have HEn := Lib.hid q8
        rw [q3] at HJ
        rw [q6, q7] at HT
        rw [q6] at HCk
        rw [q7] at HTl2
        have hN3 : (e.N : Int) + 1 < 18446744073709551616 := by omega
        clear q3 q4 q5 q6 q7 q8 HQA HQB HQC hA hB
        generalize macOf K0 E.C H = X at *
        go_wp2_with (first | (refine wpList_allocO rfl 55 rfl (.cells (epoL zE).toArray 55) alloc_epoch ?_; intro w' aa gg zz; replace HL := Lib.hid (HL.out.alloc aa gg.out); clear aa gg zz) | (refine wpList_store_epoZ rfl (.tmp 10) (.tmp 35) rfl _ _ HEo.out rfl rfl _ (HL.out.get 3 rfl) (zE_ok) ?_; intro w' b1 b2 b3; replace HL := Lib.hid (HL.out.store 3 rfl b1 b2 b3); clear b1 b2 b3) | (refine wpList_load_rowG (by kernel_rfl) 55 (.tmp 4) rfl _ rfl _ _ _ _ (HL.out.get 0 rfl) Tryd.underlying55 rfl (epo_info HO.out) ?_) | (refine wpList_load_rowG (by kernel_rfl) 23 (.tmp 5) rfl _ rfl _ _ _ _ (HL.out.get 1 rfl) Tryd.underlying23 rfl (key_info HCl.out) ?_))
        refine (HJ.out _ HL.out.aft).mono ?_
        rintro r w4 ⟨rfl, h4⟩
        replace HL := Lib.hid (HL.out.call h4)
        clear h4
        go_wp2_with (first | (refine wpList_allocO rfl 23 rfl (.cells key0 23) alloc_key ?_; intro w' aa gg zz; replace HL := Lib.hid (HL.out.alloc aa gg.out); clear aa gg zz) | (refine wpList_store_keyZ rfl (.tmp 12) (.tmp 60) rfl _ J HJl.out rfl rfl _ (HL.out.get 4 rfl) key0_size ?_; intro w' b1 b2 b3; replace HL := Lib.hid (HL.out.store 4 rfl b1 b2 b3); clear b1 b2 b3) | (refine wpList_load_rowG (by kernel_rfl) 55 (.tmp 4) rfl _ rfl _ _ _ _ (HL.out.get 0 rfl) Tryd.underlying55 rfl (epo_info HO.out) ?_))
        refine (HH.out _ HL.out.aft).mono ?_
        rintro r w5 ⟨rfl, h5⟩
        replace HL := Lib.hid (HL.out.call h5)
        clear h5
        go_wp2_with (first | (refine wpList_allocO rfl 23 rfl (.cells key0 23) alloc_key ?_; intro w' aa gg zz; replace HL := Lib.hid (HL.out.alloc aa gg.out); clear aa gg zz) | (refine wpList_store_keyZ rfl (.tmp 14) (.tmp 66) rfl _ H HHl.out rfl rfl _ (HL.out.get 5 rfl) key0_size ?_; intro w' b1 b2 b3; replace HL := Lib.hid (HL.out.store 5 rfl b1 b2 b3); clear b1 b2 b3; have hn := epo_n (HL.out.get 0 rfl)) | (refine wpList_load_rowG (by kernel_rfl) 23 (.tmp 12) rfl _ rfl _ _ _ _ (HL.out.get 4 rfl) Tryd.underlying23 rfl (key_info HJl.out) ?_) | (refine wpList_load_rowG (by kernel_rfl) 23 (.tmp 6) rfl _ rfl _ _ _ _ (HL.out.get 2 rfl) Tryd.underlying23 rfl (key_info HTl.out) ?_) | (refine wpList_load_rowG (by kernel_rfl) 23 (.tmp 14) rfl _ rfl _ _ _ _ (HL.out.get 5 rfl) Tryd.underlying23 rfl (key_info HHl.out) ?_))
        refine (HEn.out _ HL.out.aft).mono ?_
        rintro r w6 ⟨rfl, h6⟩
        replace HL := Lib.hid (HL.out.call h6)
        clear h6 hn
        go_wp2_with (first | (refine wpList_allocO rfl 55 rfl (.cells (epoL zE).toArray 55) alloc_epoch ?_; intro w' aa gg zz; replace HL := Lib.hid (HL.out.alloc aa gg.out); clear aa gg zz) | (refine wpList_store_epoZ rfl (.tmp 16) (.tmp 76) rfl _ _ HEo.out rfl rfl _ (HL.out.get 6 rfl) (zE_ok) ?_; intro w' b1 b2 b3; replace HL := Lib.hid (HL.out.store 6 rfl b1 b2 b3); clear b1 b2 b3) | (refine wpList_load_rowG (by kernel_rfl) 55 (.tmp 10) rfl _ rfl _ _ _ _ (HL.out.get 3 rfl) Tryd.underlying55 rfl (epo_info HEo.out) ?_))
        refine (HT.out _ HL.out.aft).mono ?_
        rintro r w7 ⟨rfl, h7⟩
        replace HL := Lib.hid (HL.out.call h7)
        clear h7
        go_wp2_with (first | (refine wpList_allocO rfl 23 rfl (.cells key0 23) alloc_key ?_; intro w' aa gg zz; replace HL := Lib.hid (HL.out.alloc aa gg.out); clear aa gg zz) | (refine wpList_store_keyZ rfl (.tmp 18) (.tmp 81) rfl _ X HTl2.out rfl rfl _ (HL.out.get 7 rfl) key0_size ?_; intro w' b1 b2 b3; replace HL := Lib.hid (HL.out.store 7 rfl b1 b2 b3); clear b1 b2 b3) | (refine wpList_load_rowG (by kernel_rfl) 55 (.tmp 16) rfl _ rfl _ _ _ _ (HL.out.get 6 rfl) Tryd.underlying55 rfl (epo_info HEo.out) ?_))
        refine (HT.out _ HL.out.aft).mono ?_
        rintro r w8 ⟨rfl, h8⟩
        replace HL := Lib.hid (HL.out.call h8)
        clear h8
        have hal := fun (wx : World) (g n : Nat) => run_sliceAt_keyN wx g n
        go_wp2_with (first | (refine wpList_allocO rfl 23 rfl (.cells key0 23) alloc_key ?_; intro w' aa gg zz; replace HL := Lib.hid (HL.out.alloc aa gg.out); clear aa gg zz) | (refine wpList_store_keyZ rfl (.tmp 20) (.tmp 86) rfl _ X HTl2.out rfl rfl _ (HL.out.get 8 rfl) key0_size ?_; intro w9 b1 b2 b3; replace HL := Lib.hid (HL.out.store 8 rfl b1 b2 b3); clear b1 b2 b3))
        refine wp_region_lexF (fun i => ([0,0,0,0,0,0,0,0,0,0,0,0,0,0,0,0,0,0,0,0,0,0,0,0,0,0,0,0,0,0,0,0,0,0,0,0,0,0,0,0,0,0,0,0,0,0,0,0,0,0,1,2,0,0,0,0,2] : List Nat).getD i 0) 59 (by kernel_rfl) (by kernel_rfl) ?_; intro wr hwr
        replace HL := Lib.hid (HL.out.call (show Aft w9 wr by rw [hwr]; exact (Below.refl _ _).drew))
        clear hwr
        have hn0 := fun u : Later wr.heap.size wr => epo_n (Aft.get u.h (HL.out.get 0 rfl))
        have hn3 := fun u : Later wr.heap.size wr => epo_n (Aft.get u.h (HL.out.get 3 rfl))
        rw [HEN.out] at hn3
        have HLr := HL
        repeat (first | (refine lf_skip (by go_big_quiet_skip; exact wpQuiet_nil trivial) (by kernel_rfl) ?_; simp only [Act.put, List.setIfInBounds_toArray, List.set_cons_succ, List.set_cons_zero]) | (refine lf_quiet rfl (by go_big_quiet_want; exact quiet_false (by assumption)) (by kernel_rfl) rfl ?_; intro Kx hKx; go_big_quiet_op; go_big_quiet_on))
        refine lf_load_row rfl (by kernel_rfl) 55 (.tmp 16) rfl _ rfl _ _ _ _ (HL.out.get 6 rfl) Tryd.underlying55 rfl (epo_info HEo.out) ?_
        simp only [Act.put, List.setIfInBounds_toArray, List.set_cons_succ, List.set_cons_zero]
        refine lf_load_row rfl (by kernel_rfl) 55 (.tmp 10) rfl _ rfl _ _ _ _ (HL.out.get 3 rfl) Tryd.underlying55 rfl (epo_info HEo.out) ?_
        simp only [Act.put, List.setIfInBounds_toArray, List.set_cons_succ, List.set_cons_zero]
        refine lf_bin rfl (by kernel_rfl) .eql 55 55 (.tmp 102) (.tmp 103) rfl _ _ _ rfl rfl (run_eql_epo HEo.out) (guard_epoch _ _ _ _ _) ?_
        simp only [Act.put, List.setIfInBounds_toArray, List.set_cons_succ, List.set_cons_zero]
        repeat (first | (refine lf_skip (by go_big_quiet_skip; exact wpQuiet_nil trivial) (by kernel_rfl) ?_; simp only [Act.put, List.setIfInBounds_toArray, List.set_cons_succ, List.set_cons_zero]) | (refine lf_quiet rfl (by go_big_quiet_want; exact quiet_false (by assumption)) (by kernel_rfl) rfl ?_; intro Kx hKx; go_big_quiet_op; go_big_quiet_on))
        refine lf_load_key rfl (by kernel_rfl) (.tmp 115) rfl _ 129 rfl E.H (epo_H (HL.out.get 3 rfl) HEo.out) HEo.out.H ?_
        simp only [Act.put, List.setIfInBounds_toArray, List.set_cons_succ, List.set_cons_zero]
        rw [HEH.out]
        refine lf_load_key rfl (by kernel_rfl) (.tmp 14) rfl _ 0 rfl H (HL.out.key 5 rfl HHl.out) HHl.out ?_
        simp only [Act.put, List.setIfInBounds_toArray, List.set_cons_succ, List.set_cons_zero]
        refine lf_bin rfl (by kernel_rfl) .eql 23 23 (.tmp 116) (.tmp 117) rfl _ _ _ rfl rfl (run_eql_key H HHl.out) (guard_key _ _ _ _ _) ?_
        simp only [Act.put, List.setIfInBounds_toArray, List.set_cons_succ, List.set_cons_zero]
        repeat (first | (refine lf_skip (by go_big_quiet_skip; exact wpQuiet_nil trivial) (by kernel_rfl) ?_; simp only [Act.put, List.setIfInBounds_toArray, List.set_cons_succ, List.set_cons_zero]) | (refine lf_quiet rfl (by go_big_quiet_want; exact quiet_false (by assumption)) (by kernel_rfl) rfl ?_; intro Kx hKx; go_big_quiet_op; go_big_quiet_on))
        refine lf_load_key rfl (by kernel_rfl) (.tmp 18) rfl _ 0 rfl X (HL.out.key 7 rfl HTl2.out) HTl2.out ?_
        simp only [Act.put, List.setIfInBounds_toArray, List.set_cons_succ, List.set_cons_zero]
        refine lf_load_key rfl (by kernel_rfl) (.tmp 20) rfl _ 0 rfl X (HL.out.key 8 rfl HTl2.out) HTl2.out ?_
        simp only [Act.put, List.setIfInBounds_toArray, List.set_cons_succ, List.set_cons_zero]
        refine lf_bin rfl (by kernel_rfl) .eql 23 23 (.tmp 129) (.tmp 130) rfl _ _ _ rfl rfl (run_eql_key X HTl2.out) (guard_key _ _ _ _ _) ?_
        simp only [Act.put, List.setIfInBounds_toArray, List.set_cons_succ, List.set_cons_zero]
        repeat (first | (refine lf_skip (by go_big_quiet_skip; exact wpQuiet_nil trivial) (by kernel_rfl) ?_; simp only [Act.put, List.setIfInBounds_toArray, List.set_cons_succ, List.set_cons_zero]) | (refine lf_quiet rfl (by go_big_quiet_want; exact quiet_false (by assumption)) (by kernel_rfl) rfl ?_; intro Kx hKx; go_big_quiet_op; go_big_quiet_on))
        refine lf_load_key rfl (by kernel_rfl) (.tmp 18) rfl _ 0 rfl X (HL.out.key 7 rfl HTl2.out) HTl2.out ?_
        simp only [Act.put, List.setIfInBounds_toArray, List.set_cons_succ, List.set_cons_zero]
        repeat (first | (refine lf_skip (by go_big_quiet_skip; exact wpQuiet_nil trivial) (by kernel_rfl) ?_; simp only [Act.put, List.setIfInBounds_toArray, List.set_cons_succ, List.set_cons_zero]) | (refine lf_quiet rfl (by go_big_quiet_want; exact quiet_false (by assumption)) (by kernel_rfl) rfl ?_; intro Kx hKx; go_big_quiet_op; go_big_quiet_on))
        refine lf_fresh (.cells #[.slice (some ⟨w5.heap.size, 0, none⟩) 32 32] 24) (fun g => .slice (some ⟨g, 0, none⟩) 1 1) rfl (by kernel_rfl) (fun w1 => by kernel_rfl) ?_
        intro wa ga ha1 ha2 ha3
        simp only [Act.put, List.setIfInBounds_toArray, List.set_cons_succ, List.set_cons_zero]
        replace HL := Lib.hid (HL.out.call ha1)
        have HB := Lib.hid ha3
        clear ha1 ha2 ha3
        refine lf_eff rfl (by go_big_quiet_want; exact quiet_false (by assumption)) (by kernel_rfl) ?_
        intro wc hcc Kx hKx
        replace HL := Lib.hid (HL.out.call hcc)
        go_wp2_with fail
        refine (HM.out wc _ _ HL.out.aft (epo_C (HL.out.get 3 rfl) HEo.out) (RdAll.blk (Aft.get hcc HB.out) (HL.out.key 5 rfl HHl.out))).mono ?_
        rintro r wd ⟨rfl, hd⟩
        go_wp2_with fail
        refine ⟨hd, ?_⟩
        replace HL := Lib.hid (HL.out.call hd)
        clear hd hcc
        refine lf_bin rfl (by kernel_rfl) .eql 23 23 (.tmp 134) (.tmp 139) rfl _ _ _ rfl rfl (run_eql_key X HTl2.out) (guard_key _ _ _ _ _) ?_
        simp only [Act.put, List.setIfInBounds_toArray, List.set_cons_succ, List.set_cons_zero]
        repeat (first | (refine lf_skip (by go_big_quiet_skip; exact wpQuiet_nil trivial) (by kernel_rfl) ?_; simp only [Act.put, List.setIfInBounds_toArray, List.set_cons_succ, List.set_cons_zero]) | (refine lf_quiet rfl (by go_big_quiet_want; exact quiet_false (by assumption)) (by kernel_rfl) rfl ?_; intro Kx hKx; go_big_quiet_op; go_big_quiet_on))
        refine lf_load_row rfl (by kernel_rfl) 55 (.tmp 10) rfl _ rfl _ _ _ _ (HLr.out.get 3 rfl) Tryd.underlying55 rfl (epo_info HEo.out) ?_
        simp only [Act.put, List.setIfInBounds_toArray, List.set_cons_succ, List.set_cons_zero]
        refine lf_eff rfl (by go_big_quiet_want; exact quiet_false (by assumption)) (by kernel_rfl) ?_
        intro we he Kx hKx
        replace HL := Lib.hid (HL.out.call he)
        go_wp2_with fail
        refine (HCk.out we).mono ?_
        rintro r wf ⟨rfl, hf⟩
        go_wp2_with fail
        refine ⟨hf, ?_⟩
        replace HL := Lib.hid (HL.out.call hf)
        clear hf he
        repeat (first | (refine lf_skip (by go_big_quiet_skip; exact wpQuiet_nil trivial) (by kernel_rfl) ?_; simp only [Act.put, List.setIfInBounds_toArray, List.set_cons_succ, List.set_cons_zero]) | (refine lf_quiet rfl (by go_big_quiet_want; exact quiet_false (by assumption)) (by kernel_rfl) rfl ?_; intro Kx hKx; go_big_quiet_op; go_big_quiet_on))
        refine lf_done ?_
        intro wt ht
        replace HL := Lib.hid (HL.out.call ht)
        clear ht
        go_wp2_with fail
        go_ret
        exact ⟨rfl, HL.out.aft⟩
end Go.Proofs.YtanodhagpegbfaaDoor
