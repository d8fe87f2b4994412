/- The law SchedDoes. -/
import Derived.Test.YtanodhagpegbfaaDoorLive14
import Derived.Test.YtanodhagpegbfaaDoorRefNext
namespace Go.Proofs.YtanodhagpegbfaaDoor
open Go Go.RowKit
set_option linter.unusedSimpArgs false
theorem tgK_length (e : Epo) : (tgK e).length = 32 := by
  unfold tgK
  split
  · exact macOf_length _ _ _
  · exact List.length_replicate
set_option maxRecDepth 100000 in
set_option maxHeartbeats 16000000 in
theorem schedDoes_any (e : Epo) (c t hs : List (BitVec 8)) (n : Nat) (vx : Value) (x : List (BitVec 8)) (w : World) (hK : TabK K0 2 w) (hK2 : TabK K0 0 w) (ho : e.Ok) (hc : c.length = 32) (ht : t.length = 32) (hh : hs.length = 32) (hn : n < 18446744073709551616) (hr : Rd w vx (bv x)) :
    Calls Tryd.prog 11 #[.agg (epoL e).toArray, .agg (bv c).toArray, .agg (bv t).toArray, .agg (bv hs).toArray, .int .u64 (n : Int), vx] w fun r w' => r = .returned (.bool true) ∧ Below w.heap.size w w' := by
  have HK := Lib.hid hK
  have HK2 := Lib.hid hK2
  have HO := Lib.hid ho
  have HCl := Lib.hid hc
  have HTl := Lib.hid ht
  have HHl := Lib.hid hh
  have HLv := Lib.hid (fun (wx : World) (h : Aft w wx) => live14_any  wx (TabK_fr HK.out (Fr.of_below (S := fun _ => False) h) (fun h => h)) )
  have C1 := Lib.hid (fun (wx : World) (h : Aft w wx) => enter_any c t hs n wx (TabK_fr HK.out (Fr.of_below (S := fun _ => False) h) (fun h => h)) hc ht hh hn)
  have C2 := Lib.hid (fun (wx : World) (h : Aft w wx) => refEnter_any c t hs n wx (TabK_fr HK2.out (Fr.of_below (S := fun _ => False) h) (fun h => h)) hc ht hh hn)
  have C3 := Lib.hid (fun (wx : World) (h : Aft w wx) => nextE_any e c t vx x wx (TabK_fr HK.out (Fr.of_below (S := fun _ => False) h) (fun h => h)) ho hc ht (hr.grow h))
  have C4 := Lib.hid (fun (wx : World) (h : Aft w wx) => refNextE_any e c t vx x wx (TabK_fr HK2.out (Fr.of_below (S := fun _ => False) h) (fun h => h)) ho hc ht (hr.grow h))
  have C5 := Lib.hid (fun (wx : World) (h : Aft w wx) => joiner_any e c wx (TabK_fr HK.out (Fr.of_below (S := fun _ => False) h) (fun h => h)) ho hc)
  have C6 := Lib.hid (fun (wx : World) (h : Aft w wx) => refJoiner_any e c wx (TabK_fr HK2.out (Fr.of_below (S := fun _ => False) h) (fun h => h)) ho hc)
  have C7 := Lib.hid (fun (wx : World) (h : Aft w wx) => hash_any e vx x wx (TabK_fr HK.out (Fr.of_below (S := fun _ => False) h) (fun h => h)) ho (hr.grow h))
  have C8 := Lib.hid (fun (wx : World) (h : Aft w wx) => refHash_any e vx x wx (TabK_fr HK2.out (Fr.of_below (S := fun _ => False) h) (fun h => h)) ho (hr.grow h))
  have C9 := Lib.hid (fun (wx : World) (h : Aft w wx) => tag_any e wx (TabK_fr HK.out (Fr.of_below (S := fun _ => False) h) (fun h => h)) ho)
  have C10 := Lib.hid (fun (wx : World) (h : Aft w wx) => refTag_any e wx (TabK_fr HK2.out (Fr.of_below (S := fun _ => False) h) (fun h => h)) ho)
  have C11 := Lib.hid (fun (wx : World) => schedCheck_any e wx)
  have C12 := Lib.hid (fun (wx : World) => refSchedCheck_any e wx)
  have O1 := Lib.hid (show (enE c n t hs).Ok from enE_ok hh)
  have O2 := Lib.hid (nxtE_ok e c t x)
  have L1 := Lib.hid (jnK_length e c)
  have L2 := Lib.hid (hsK_length e x)
  have L3 := Lib.hid (tgK_length e)
  obtain ⟨ax, cx, rfl, -, -, -, -⟩ := hr
  have HL := Lib.hid (Led.start w)
  clear hK hK2 ho hc ht hh hn
  rw [bv_length] at C3 C4 C7 C8 ⊢
  generalize enE c n t hs = E1 at *
  generalize nxtE e c t x = E2 at *
  generalize jnK e c = J at *
  generalize hsK e x = H at *
  generalize tgK e = T at *
  generalize hsE e x = f1 at *
  generalize nxtF e x = f2 at *
  generalize epChk e.N = f3 at *
  generalize epChk n = f4 at *
  go_enter Tryd.func11, Tryd.ntmps11
  go_wp2_with (first | (refine wpList_boxO rfl 55 (.tmp 0) rfl (.agg (epoL e).toArray) rfl (.cells (epoL e).toArray 55) (box_epoch _) ?_; intro w' aa gg zz; replace HL := Lib.hid (HL.out.alloc aa gg.out); clear aa gg zz; try simp only [List.nil_append, List.cons_append, List.set_cons_zero, List.set_cons_succ] at HL) | (refine wpList_boxO rfl 23 (.tmp 1) rfl (.agg (bv c).toArray) rfl (.cells (bv c).toArray 23) (box_key _) ?_; intro w' aa gg zz; replace HL := Lib.hid (HL.out.alloc aa gg.out); clear aa gg zz; try simp only [List.nil_append, List.cons_append, List.set_cons_zero, List.set_cons_succ] at HL) | (refine wpList_boxO rfl 23 (.tmp 2) rfl (.agg (bv t).toArray) rfl (.cells (bv t).toArray 23) (box_key _) ?_; intro w' aa gg zz; replace HL := Lib.hid (HL.out.alloc aa gg.out); clear aa gg zz; try simp only [List.nil_append, List.cons_append, List.set_cons_zero, List.set_cons_succ] at HL) | (refine wpList_boxO rfl 23 (.tmp 3) rfl (.agg (bv hs).toArray) rfl (.cells (bv hs).toArray 23) (box_key _) ?_; intro w' aa gg zz; replace HL := Lib.hid (HL.out.alloc aa gg.out); clear aa gg zz; try simp only [List.nil_append, List.cons_append, List.set_cons_zero, List.set_cons_succ] at HL))
  refine (HLv.out _ HL.out.aft).mono ?_
  rintro r w2 ⟨rfl, h2⟩
  replace HL := Lib.hid (HL.out.call h2)
  clear h2
  by_cases h3 : (3000 : Int) < (x.length : Nat)
  · by_cases h4 : (x.length : Int) ≤ 1048576
    · go_wp2_with fail
      go_ret
      exact ⟨rfl, HL.out.aft⟩
    · go_wp2_with (first | (refine wpList_load_rowG (by kernel_rfl) 23 (.tmp 7) rfl _ rfl _ _ _ _ (HL.out.get 1 rfl) Tryd.underlying23 rfl (key_info HCl.out) ?_) | (refine wpList_load_rowG (by kernel_rfl) 23 (.tmp 8) rfl _ rfl _ _ _ _ (HL.out.get 2 rfl) Tryd.underlying23 rfl (key_info HTl.out) ?_) | (refine wpList_load_rowG (by kernel_rfl) 23 (.tmp 9) rfl _ rfl _ _ _ _ (HL.out.get 3 rfl) Tryd.underlying23 rfl (key_info HHl.out) ?_))
      refine (C1.out _ HL.out.aft).mono ?_
      rintro r w3 ⟨rfl, hx⟩
      replace HL := Lib.hid (HL.out.call hx)
      clear hx
      go_wp2_with (first | (refine wpList_allocO rfl 55 rfl (.cells (epoL zE).toArray 55) alloc_epoch ?_; intro w' aa gg zz; replace HL := Lib.hid (HL.out.alloc aa gg.out); clear aa gg zz; try simp only [List.nil_append, List.cons_append, List.set_cons_zero, List.set_cons_succ] at HL) | (refine wpList_store_epoZ rfl (.tmp 14) (.tmp 52) rfl _ _ O1.out rfl rfl _ (HL.out.get 4 rfl) (zE_ok) ?_; intro w' b1 b2 b3; replace HL := Lib.hid (HL.out.store 4 rfl b1 b2 b3); clear b1 b2 b3; try simp only [List.nil_append, List.cons_append, List.set_cons_zero, List.set_cons_succ] at HL) | (refine wpList_load_rowG (by kernel_rfl) 23 (.tmp 7) rfl _ rfl _ _ _ _ (HL.out.get 1 rfl) Tryd.underlying23 rfl (key_info HCl.out) ?_) | (refine wpList_load_rowG (by kernel_rfl) 23 (.tmp 8) rfl _ rfl _ _ _ _ (HL.out.get 2 rfl) Tryd.underlying23 rfl (key_info HTl.out) ?_) | (refine wpList_load_rowG (by kernel_rfl) 23 (.tmp 9) rfl _ rfl _ _ _ _ (HL.out.get 3 rfl) Tryd.underlying23 rfl (key_info HHl.out) ?_))
      refine (C2.out _ HL.out.aft).mono ?_
      rintro r w4 ⟨rfl, hx⟩
      replace HL := Lib.hid (HL.out.call hx)
      clear hx
      go_wp2_with (first | (refine wpList_allocO rfl 55 rfl (.cells (epoL zE).toArray 55) alloc_epoch ?_; intro w' aa gg zz; replace HL := Lib.hid (HL.out.alloc aa gg.out); clear aa gg zz; try simp only [List.nil_append, List.cons_append, List.set_cons_zero, List.set_cons_succ] at HL) | (refine wpList_store_epoZ rfl (.tmp 16) (.tmp 60) rfl _ _ O1.out rfl rfl _ (HL.out.get 5 rfl) (zE_ok) ?_; intro w' b1 b2 b3; replace HL := Lib.hid (HL.out.store 5 rfl b1 b2 b3); clear b1 b2 b3; try simp only [List.nil_append, List.cons_append, List.set_cons_zero, List.set_cons_succ] at HL) | (refine wpList_load_rowG (by kernel_rfl) 55 (.tmp 6) rfl _ rfl _ _ _ _ (HL.out.get 0 rfl) Tryd.underlying55 rfl (epo_info HO.out) ?_) | (refine wpList_load_rowG (by kernel_rfl) 23 (.tmp 7) rfl _ rfl _ _ _ _ (HL.out.get 1 rfl) Tryd.underlying23 rfl (key_info HCl.out) ?_) | (refine wpList_load_rowG (by kernel_rfl) 23 (.tmp 8) rfl _ rfl _ _ _ _ (HL.out.get 2 rfl) Tryd.underlying23 rfl (key_info HTl.out) ?_))
      refine (C3.out _ HL.out.aft).mono ?_
      rintro r w5 ⟨rfl, hx⟩
      replace HL := Lib.hid (HL.out.call hx)
      clear hx
      go_wp2_with (first | (refine wpList_allocO rfl 55 rfl (.cells (epoL zE).toArray 55) alloc_epoch ?_; intro w' aa gg zz; replace HL := Lib.hid (HL.out.alloc aa gg.out); clear aa gg zz; try simp only [List.nil_append, List.cons_append, List.set_cons_zero, List.set_cons_succ] at HL) | (refine wpList_store_epoZ rfl (.tmp 18) (.tmp 68) rfl _ _ O2.out rfl rfl _ (HL.out.get 6 rfl) (zE_ok) ?_; intro w' b1 b2 b3; replace HL := Lib.hid (HL.out.store 6 rfl b1 b2 b3); clear b1 b2 b3; try simp only [List.nil_append, List.cons_append, List.set_cons_zero, List.set_cons_succ] at HL) | (refine wpList_load_rowG (by kernel_rfl) 55 (.tmp 6) rfl _ rfl _ _ _ _ (HL.out.get 0 rfl) Tryd.underlying55 rfl (epo_info HO.out) ?_) | (refine wpList_load_rowG (by kernel_rfl) 23 (.tmp 7) rfl _ rfl _ _ _ _ (HL.out.get 1 rfl) Tryd.underlying23 rfl (key_info HCl.out) ?_) | (refine wpList_load_rowG (by kernel_rfl) 23 (.tmp 8) rfl _ rfl _ _ _ _ (HL.out.get 2 rfl) Tryd.underlying23 rfl (key_info HTl.out) ?_))
      refine (C4.out _ HL.out.aft).mono ?_
      rintro r w6 ⟨rfl, hx⟩
      replace HL := Lib.hid (HL.out.call hx)
      clear hx
      go_wp2_with (first | (refine wpList_allocO rfl 55 rfl (.cells (epoL zE).toArray 55) alloc_epoch ?_; intro w' aa gg zz; replace HL := Lib.hid (HL.out.alloc aa gg.out); clear aa gg zz; try simp only [List.nil_append, List.cons_append, List.set_cons_zero, List.set_cons_succ] at HL) | (refine wpList_store_epoZ rfl (.tmp 20) (.tmp 76) rfl _ _ O2.out rfl rfl _ (HL.out.get 7 rfl) (zE_ok) ?_; intro w' b1 b2 b3; replace HL := Lib.hid (HL.out.store 7 rfl b1 b2 b3); clear b1 b2 b3; try simp only [List.nil_append, List.cons_append, List.set_cons_zero, List.set_cons_succ] at HL) | (refine wpList_load_rowG (by kernel_rfl) 55 (.tmp 6) rfl _ rfl _ _ _ _ (HL.out.get 0 rfl) Tryd.underlying55 rfl (epo_info HO.out) ?_) | (refine wpList_load_rowG (by kernel_rfl) 23 (.tmp 7) rfl _ rfl _ _ _ _ (HL.out.get 1 rfl) Tryd.underlying23 rfl (key_info HCl.out) ?_))
      refine (C5.out _ HL.out.aft).mono ?_
      rintro r w7 ⟨rfl, hx⟩
      replace HL := Lib.hid (HL.out.call hx)
      clear hx
      go_wp2_with (first | (refine wpList_allocO rfl 23 rfl (.cells key0 23) alloc_key ?_; intro w' aa gg zz; replace HL := Lib.hid (HL.out.alloc aa gg.out); clear aa gg zz; try simp only [List.nil_append, List.cons_append, List.set_cons_zero, List.set_cons_succ] at HL) | (refine wpList_store_keyZ rfl (.tmp 22) (.tmp 82) rfl _ J L1.out rfl rfl _ (HL.out.get 8 rfl) key0_size ?_; intro w' b1 b2 b3; replace HL := Lib.hid (HL.out.store 8 rfl b1 b2 b3); clear b1 b2 b3; try simp only [List.nil_append, List.cons_append, List.set_cons_zero, List.set_cons_succ] at HL) | (refine wpList_load_rowG (by kernel_rfl) 55 (.tmp 6) rfl _ rfl _ _ _ _ (HL.out.get 0 rfl) Tryd.underlying55 rfl (epo_info HO.out) ?_) | (refine wpList_load_rowG (by kernel_rfl) 23 (.tmp 7) rfl _ rfl _ _ _ _ (HL.out.get 1 rfl) Tryd.underlying23 rfl (key_info HCl.out) ?_))
      refine (C6.out _ HL.out.aft).mono ?_
      rintro r w8 ⟨rfl, hx⟩
      replace HL := Lib.hid (HL.out.call hx)
      clear hx
      go_wp2_with (first | (refine wpList_allocO rfl 23 rfl (.cells key0 23) alloc_key ?_; intro w' aa gg zz; replace HL := Lib.hid (HL.out.alloc aa gg.out); clear aa gg zz; try simp only [List.nil_append, List.cons_append, List.set_cons_zero, List.set_cons_succ] at HL) | (refine wpList_store_keyZ rfl (.tmp 24) (.tmp 88) rfl _ J L1.out rfl rfl _ (HL.out.get 9 rfl) key0_size ?_; intro w' b1 b2 b3; replace HL := Lib.hid (HL.out.store 9 rfl b1 b2 b3); clear b1 b2 b3; try simp only [List.nil_append, List.cons_append, List.set_cons_zero, List.set_cons_succ] at HL) | (refine wpList_load_rowG (by kernel_rfl) 55 (.tmp 6) rfl _ rfl _ _ _ _ (HL.out.get 0 rfl) Tryd.underlying55 rfl (epo_info HO.out) ?_))
      refine (C7.out _ HL.out.aft).mono ?_
      rintro r w9 ⟨rfl, hx⟩
      replace HL := Lib.hid (HL.out.call hx)
      clear hx
      go_wp2_with (first | (refine wpList_allocO rfl 23 rfl (.cells key0 23) alloc_key ?_; intro w' aa gg zz; replace HL := Lib.hid (HL.out.alloc aa gg.out); clear aa gg zz; try simp only [List.nil_append, List.cons_append, List.set_cons_zero, List.set_cons_succ] at HL) | (refine wpList_store_keyZ rfl (.tmp 26) (.tmp 94) rfl _ H L2.out rfl rfl _ (HL.out.get 10 rfl) key0_size ?_; intro w' b1 b2 b3; replace HL := Lib.hid (HL.out.store 10 rfl b1 b2 b3); clear b1 b2 b3; try simp only [List.nil_append, List.cons_append, List.set_cons_zero, List.set_cons_succ] at HL) | (refine wpList_load_rowG (by kernel_rfl) 55 (.tmp 6) rfl _ rfl _ _ _ _ (HL.out.get 0 rfl) Tryd.underlying55 rfl (epo_info HO.out) ?_))
      refine (C8.out _ HL.out.aft).mono ?_
      rintro r w10 ⟨rfl, hx⟩
      replace HL := Lib.hid (HL.out.call hx)
      clear hx
      go_wp2_with (first | (refine wpList_allocO rfl 23 rfl (.cells key0 23) alloc_key ?_; intro w' aa gg zz; replace HL := Lib.hid (HL.out.alloc aa gg.out); clear aa gg zz; try simp only [List.nil_append, List.cons_append, List.set_cons_zero, List.set_cons_succ] at HL) | (refine wpList_store_keyZ rfl (.tmp 28) (.tmp 100) rfl _ H L2.out rfl rfl _ (HL.out.get 11 rfl) key0_size ?_; intro w' b1 b2 b3; replace HL := Lib.hid (HL.out.store 11 rfl b1 b2 b3); clear b1 b2 b3; try simp only [List.nil_append, List.cons_append, List.set_cons_zero, List.set_cons_succ] at HL) | (refine wpList_load_rowG (by kernel_rfl) 55 (.tmp 6) rfl _ rfl _ _ _ _ (HL.out.get 0 rfl) Tryd.underlying55 rfl (epo_info HO.out) ?_))
      refine (C9.out _ HL.out.aft).mono ?_
      rintro r w11 ⟨rfl, hx⟩
      replace HL := Lib.hid (HL.out.call hx)
      clear hx
      go_wp2_with (first | (refine wpList_allocO rfl 23 rfl (.cells key0 23) alloc_key ?_; intro w' aa gg zz; replace HL := Lib.hid (HL.out.alloc aa gg.out); clear aa gg zz; try simp only [List.nil_append, List.cons_append, List.set_cons_zero, List.set_cons_succ] at HL) | (refine wpList_store_keyZ rfl (.tmp 30) (.tmp 105) rfl _ T L3.out rfl rfl _ (HL.out.get 12 rfl) key0_size ?_; intro w' b1 b2 b3; replace HL := Lib.hid (HL.out.store 12 rfl b1 b2 b3); clear b1 b2 b3; try simp only [List.nil_append, List.cons_append, List.set_cons_zero, List.set_cons_succ] at HL) | (refine wpList_load_rowG (by kernel_rfl) 55 (.tmp 6) rfl _ rfl _ _ _ _ (HL.out.get 0 rfl) Tryd.underlying55 rfl (epo_info HO.out) ?_))
      refine (C10.out _ HL.out.aft).mono ?_
      rintro r w12 ⟨rfl, hx⟩
      replace HL := Lib.hid (HL.out.call hx)
      clear hx
      go_wp2_with (first | (refine wpList_allocO rfl 23 rfl (.cells key0 23) alloc_key ?_; intro w' aa gg zz; replace HL := Lib.hid (HL.out.alloc aa gg.out); clear aa gg zz; try simp only [List.nil_append, List.cons_append, List.set_cons_zero, List.set_cons_succ] at HL) | (refine wpList_store_keyZ rfl (.tmp 32) (.tmp 110) rfl _ T L3.out rfl rfl _ (HL.out.get 13 rfl) key0_size ?_; intro w13 b1 b2 b3; replace HL := Lib.hid (HL.out.store 13 rfl b1 b2 b3); clear b1 b2 b3))
      refine wp_region_lexF (fun i => ([0,0,0,0,0,0,0,0,0,0,0,0,0,0,0,0,0,0,0,0,0,0,0,0,0,0,0,0,0,0,0,0,0,0,0,0,0,0,0,0,0,0,0,0,0,0,0,0,0,0,0,0,0,2,0,2,0,0] : List Nat).getD i 0) 58 (by kernel_rfl) (by kernel_rfl) ?_; intro wr hwr
      replace HL := Lib.hid (HL.out.call (show Aft w13 wr by rw [hwr]; exact (Below.refl _ _).drew))
      clear hwr
      have HLr := HL
      repeat (first | (refine lf_skip (by go_big_quiet_skip; exact wpQuiet_nil trivial) (by kernel_rfl) ?_; simp only [Act.put, List.setIfInBounds_toArray, List.set_cons_succ, List.set_cons_zero]) | (refine lf_quiet rfl (by go_big_quiet_want; exact quiet_false (by assumption)) (by kernel_rfl) rfl ?_; intro Kx hKx; go_big_quiet_op; go_big_quiet_on))
      refine lf_load_row rfl (by kernel_rfl) 55 (.tmp 14) rfl _ rfl _ _ _ _ (HLr.out.get 4 rfl) Tryd.underlying55 rfl (epo_info O1.out) ?_
      simp only [Act.put, List.setIfInBounds_toArray, List.set_cons_succ, List.set_cons_zero]
      refine lf_load_row rfl (by kernel_rfl) 55 (.tmp 16) rfl _ rfl _ _ _ _ (HLr.out.get 5 rfl) Tryd.underlying55 rfl (epo_info O1.out) ?_
      simp only [Act.put, List.setIfInBounds_toArray, List.set_cons_succ, List.set_cons_zero]
      refine lf_bin rfl (by kernel_rfl) .eql 55 55 (.tmp 114) (.tmp 115) rfl _ _ _ rfl rfl (run_eql_epo O1.out) (guard_epoch _ _ _ _ _) ?_
      simp only [Act.put, List.setIfInBounds_toArray, List.set_cons_succ, List.set_cons_zero]
      repeat (first | (refine lf_skip (by go_big_quiet_skip; exact wpQuiet_nil trivial) (by kernel_rfl) ?_; simp only [Act.put, List.setIfInBounds_toArray, List.set_cons_succ, List.set_cons_zero]) | (refine lf_quiet rfl (by go_big_quiet_want; exact quiet_false (by assumption)) (by kernel_rfl) rfl ?_; intro Kx hKx; go_big_quiet_op; go_big_quiet_on))
      refine lf_load_row rfl (by kernel_rfl) 55 (.tmp 18) rfl _ rfl _ _ _ _ (HLr.out.get 6 rfl) Tryd.underlying55 rfl (epo_info O2.out) ?_
      simp only [Act.put, List.setIfInBounds_toArray, List.set_cons_succ, List.set_cons_zero]
      refine lf_load_row rfl (by kernel_rfl) 55 (.tmp 20) rfl _ rfl _ _ _ _ (HLr.out.get 7 rfl) Tryd.underlying55 rfl (epo_info O2.out) ?_
      simp only [Act.put, List.setIfInBounds_toArray, List.set_cons_succ, List.set_cons_zero]
      refine lf_bin rfl (by kernel_rfl) .eql 55 55 (.tmp 124) (.tmp 125) rfl _ _ _ rfl rfl (run_eql_epo O2.out) (guard_epoch _ _ _ _ _) ?_
      simp only [Act.put, List.setIfInBounds_toArray, List.set_cons_succ, List.set_cons_zero]
      repeat (first | (refine lf_skip (by go_big_quiet_skip; exact wpQuiet_nil trivial) (by kernel_rfl) ?_; simp only [Act.put, List.setIfInBounds_toArray, List.set_cons_succ, List.set_cons_zero]) | (refine lf_quiet rfl (by go_big_quiet_want; exact quiet_false (by assumption)) (by kernel_rfl) rfl ?_; intro Kx hKx; go_big_quiet_op; go_big_quiet_on))
      refine lf_load_key rfl (by kernel_rfl) (.tmp 22) rfl _ 0 rfl J (HLr.out.key 8 rfl L1.out) L1.out ?_
      simp only [Act.put, List.setIfInBounds_toArray, List.set_cons_succ, List.set_cons_zero]
      refine lf_load_key rfl (by kernel_rfl) (.tmp 24) rfl _ 0 rfl J (HLr.out.key 9 rfl L1.out) L1.out ?_
      simp only [Act.put, List.setIfInBounds_toArray, List.set_cons_succ, List.set_cons_zero]
      refine lf_bin rfl (by kernel_rfl) .eql 23 23 (.tmp 134) (.tmp 135) rfl _ _ _ rfl rfl (run_eql_key J L1.out) (guard_key _ _ _ _ _) ?_
      simp only [Act.put, List.setIfInBounds_toArray, List.set_cons_succ, List.set_cons_zero]
      repeat (first | (refine lf_skip (by go_big_quiet_skip; exact wpQuiet_nil trivial) (by kernel_rfl) ?_; simp only [Act.put, List.setIfInBounds_toArray, List.set_cons_succ, List.set_cons_zero]) | (refine lf_quiet rfl (by go_big_quiet_want; exact quiet_false (by assumption)) (by kernel_rfl) rfl ?_; intro Kx hKx; go_big_quiet_op; go_big_quiet_on))
      refine lf_load_key rfl (by kernel_rfl) (.tmp 26) rfl _ 0 rfl H (HLr.out.key 10 rfl L2.out) L2.out ?_
      simp only [Act.put, List.setIfInBounds_toArray, List.set_cons_succ, List.set_cons_zero]
      refine lf_load_key rfl (by kernel_rfl) (.tmp 28) rfl _ 0 rfl H (HLr.out.key 11 rfl L2.out) L2.out ?_
      simp only [Act.put, List.setIfInBounds_toArray, List.set_cons_succ, List.set_cons_zero]
      refine lf_bin rfl (by kernel_rfl) .eql 23 23 (.tmp 144) (.tmp 145) rfl _ _ _ rfl rfl (run_eql_key H L2.out) (guard_key _ _ _ _ _) ?_
      simp only [Act.put, List.setIfInBounds_toArray, List.set_cons_succ, List.set_cons_zero]
      repeat (first | (refine lf_skip (by go_big_quiet_skip; exact wpQuiet_nil trivial) (by kernel_rfl) ?_; simp only [Act.put, List.setIfInBounds_toArray, List.set_cons_succ, List.set_cons_zero]) | (refine lf_quiet rfl (by go_big_quiet_want; exact quiet_false (by assumption)) (by kernel_rfl) rfl ?_; intro Kx hKx; go_big_quiet_op; go_big_quiet_on))
      refine lf_load_key rfl (by kernel_rfl) (.tmp 30) rfl _ 0 rfl T (HLr.out.key 12 rfl L3.out) L3.out ?_
      simp only [Act.put, List.setIfInBounds_toArray, List.set_cons_succ, List.set_cons_zero]
      refine lf_load_key rfl (by kernel_rfl) (.tmp 32) rfl _ 0 rfl T (HLr.out.key 13 rfl L3.out) L3.out ?_
      simp only [Act.put, List.setIfInBounds_toArray, List.set_cons_succ, List.set_cons_zero]
      refine lf_bin rfl (by kernel_rfl) .eql 23 23 (.tmp 154) (.tmp 155) rfl _ _ _ rfl rfl (run_eql_key T L3.out) (guard_key _ _ _ _ _) ?_
      simp only [Act.put, List.setIfInBounds_toArray, List.set_cons_succ, List.set_cons_zero]
      repeat (first | (refine lf_skip (by go_big_quiet_skip; exact wpQuiet_nil trivial) (by kernel_rfl) ?_; simp only [Act.put, List.setIfInBounds_toArray, List.set_cons_succ, List.set_cons_zero]) | (refine lf_quiet rfl (by go_big_quiet_want; exact quiet_false (by assumption)) (by kernel_rfl) rfl ?_; intro Kx hKx; go_big_quiet_op; go_big_quiet_on))
      refine lf_load_row rfl (by kernel_rfl) 55 (.tmp 6) rfl _ rfl _ _ _ _ (HLr.out.get 0 rfl) Tryd.underlying55 rfl (epo_info HO.out) ?_
      simp only [Act.put, List.setIfInBounds_toArray, List.set_cons_succ, List.set_cons_zero]
      refine lf_eff rfl (by go_big_quiet_want; exact quiet_false (by assumption)) (by kernel_rfl) ?_
      intro wa ha Kx hKx
      replace HL := Lib.hid (HL.out.call ha)
      go_wp2_with fail
      refine (C11.out wa).mono ?_
      rintro r wb ⟨rfl, hb⟩
      go_wp2_with fail
      refine ⟨hb, ?_⟩
      replace HL := Lib.hid (HL.out.call hb)
      clear hb ha
      refine lf_load_row rfl (by kernel_rfl) 55 (.tmp 6) rfl _ rfl _ _ _ _ (HLr.out.get 0 rfl) Tryd.underlying55 rfl (epo_info HO.out) ?_
      simp only [Act.put, List.setIfInBounds_toArray, List.set_cons_succ, List.set_cons_zero]
      refine lf_eff rfl (by go_big_quiet_want; exact quiet_false (by assumption)) (by kernel_rfl) ?_
      intro wc hcc Kx hKx
      replace HL := Lib.hid (HL.out.call hcc)
      go_wp2_with fail
      refine (C12.out wc).mono ?_
      rintro r wd ⟨rfl, hd⟩
      go_wp2_with fail
      refine ⟨hd, ?_⟩
      replace HL := Lib.hid (HL.out.call hd)
      clear hd hcc
      repeat (first | (refine lf_skip (by go_big_quiet_skip; exact wpQuiet_nil trivial) (by kernel_rfl) ?_; simp only [Act.put, List.setIfInBounds_toArray, List.set_cons_succ, List.set_cons_zero]) | (refine lf_quiet rfl (by go_big_quiet_want; exact quiet_false (by assumption)) (by kernel_rfl) rfl ?_; intro Kx hKx; go_big_quiet_op; go_big_quiet_on))
      refine lf_done ?_
      intro wt htt
      replace HL := Lib.hid (HL.out.call htt)
      clear htt
      go_wp2_with fail
      go_ret
      exact ⟨rfl, HL.out.aft⟩
  · go_wp2_with (first | (refine wpList_load_rowG (by kernel_rfl) 23 (.tmp 7) rfl _ rfl _ _ _ _ (HL.out.get 1 rfl) Tryd.underlying23 rfl (key_info HCl.out) ?_) | (refine wpList_load_rowG (by kernel_rfl) 23 (.tmp 8) rfl _ rfl _ _ _ _ (HL.out.get 2 rfl) Tryd.underlying23 rfl (key_info HTl.out) ?_) | (refine wpList_load_rowG (by kernel_rfl) 23 (.tmp 9) rfl _ rfl _ _ _ _ (HL.out.get 3 rfl) Tryd.underlying23 rfl (key_info HHl.out) ?_))
    refine (C1.out _ HL.out.aft).mono ?_
    rintro r w3 ⟨rfl, hx⟩
    replace HL := Lib.hid (HL.out.call hx)
    clear hx
    go_wp2_with (first | (refine wpList_allocO rfl 55 rfl (.cells (epoL zE).toArray 55) alloc_epoch ?_; intro w' aa gg zz; replace HL := Lib.hid (HL.out.alloc aa gg.out); clear aa gg zz; try simp only [List.nil_append, List.cons_append, List.set_cons_zero, List.set_cons_succ] at HL) | (refine wpList_store_epoZ rfl (.tmp 14) (.tmp 52) rfl _ _ O1.out rfl rfl _ (HL.out.get 4 rfl) (zE_ok) ?_; intro w' b1 b2 b3; replace HL := Lib.hid (HL.out.store 4 rfl b1 b2 b3); clear b1 b2 b3; try simp only [List.nil_append, List.cons_append, List.set_cons_zero, List.set_cons_succ] at HL) | (refine wpList_load_rowG (by kernel_rfl) 23 (.tmp 7) rfl _ rfl _ _ _ _ (HL.out.get 1 rfl) Tryd.underlying23 rfl (key_info HCl.out) ?_) | (refine wpList_load_rowG (by kernel_rfl) 23 (.tmp 8) rfl _ rfl _ _ _ _ (HL.out.get 2 rfl) Tryd.underlying23 rfl (key_info HTl.out) ?_) | (refine wpList_load_rowG (by kernel_rfl) 23 (.tmp 9) rfl _ rfl _ _ _ _ (HL.out.get 3 rfl) Tryd.underlying23 rfl (key_info HHl.out) ?_))
    refine (C2.out _ HL.out.aft).mono ?_
    rintro r w4 ⟨rfl, hx⟩
    replace HL := Lib.hid (HL.out.call hx)
    clear hx
    go_wp2_with (first | (refine wpList_allocO rfl 55 rfl (.cells (epoL zE).toArray 55) alloc_epoch ?_; intro w' aa gg zz; replace HL := Lib.hid (HL.out.alloc aa gg.out); clear aa gg zz; try simp only [List.nil_append, List.cons_append, List.set_cons_zero, List.set_cons_succ] at HL) | (refine wpList_store_epoZ rfl (.tmp 16) (.tmp 60) rfl _ _ O1.out rfl rfl _ (HL.out.get 5 rfl) (zE_ok) ?_; intro w' b1 b2 b3; replace HL := Lib.hid (HL.out.store 5 rfl b1 b2 b3); clear b1 b2 b3; try simp only [List.nil_append, List.cons_append, List.set_cons_zero, List.set_cons_succ] at HL) | (refine wpList_load_rowG (by kernel_rfl) 55 (.tmp 6) rfl _ rfl _ _ _ _ (HL.out.get 0 rfl) Tryd.underlying55 rfl (epo_info HO.out) ?_) | (refine wpList_load_rowG (by kernel_rfl) 23 (.tmp 7) rfl _ rfl _ _ _ _ (HL.out.get 1 rfl) Tryd.underlying23 rfl (key_info HCl.out) ?_) | (refine wpList_load_rowG (by kernel_rfl) 23 (.tmp 8) rfl _ rfl _ _ _ _ (HL.out.get 2 rfl) Tryd.underlying23 rfl (key_info HTl.out) ?_))
    refine (C3.out _ HL.out.aft).mono ?_
    rintro r w5 ⟨rfl, hx⟩
    replace HL := Lib.hid (HL.out.call hx)
    clear hx
    go_wp2_with (first | (refine wpList_allocO rfl 55 rfl (.cells (epoL zE).toArray 55) alloc_epoch ?_; intro w' aa gg zz; replace HL := Lib.hid (HL.out.alloc aa gg.out); clear aa gg zz; try simp only [List.nil_append, List.cons_append, List.set_cons_zero, List.set_cons_succ] at HL) | (refine wpList_store_epoZ rfl (.tmp 18) (.tmp 68) rfl _ _ O2.out rfl rfl _ (HL.out.get 6 rfl) (zE_ok) ?_; intro w' b1 b2 b3; replace HL := Lib.hid (HL.out.store 6 rfl b1 b2 b3); clear b1 b2 b3; try simp only [List.nil_append, List.cons_append, List.set_cons_zero, List.set_cons_succ] at HL) | (refine wpList_load_rowG (by kernel_rfl) 55 (.tmp 6) rfl _ rfl _ _ _ _ (HL.out.get 0 rfl) Tryd.underlying55 rfl (epo_info HO.out) ?_) | (refine wpList_load_rowG (by kernel_rfl) 23 (.tmp 7) rfl _ rfl _ _ _ _ (HL.out.get 1 rfl) Tryd.underlying23 rfl (key_info HCl.out) ?_) | (refine wpList_load_rowG (by kernel_rfl) 23 (.tmp 8) rfl _ rfl _ _ _ _ (HL.out.get 2 rfl) Tryd.underlying23 rfl (key_info HTl.out) ?_))
    refine (C4.out _ HL.out.aft).mono ?_
    rintro r w6 ⟨rfl, hx⟩
    replace HL := Lib.hid (HL.out.call hx)
    clear hx
    go_wp2_with (first | (refine wpList_allocO rfl 55 rfl (.cells (epoL zE).toArray 55) alloc_epoch ?_; intro w' aa gg zz; replace HL := Lib.hid (HL.out.alloc aa gg.out); clear aa gg zz; try simp only [List.nil_append, List.cons_append, List.set_cons_zero, List.set_cons_succ] at HL) | (refine wpList_store_epoZ rfl (.tmp 20) (.tmp 76) rfl _ _ O2.out rfl rfl _ (HL.out.get 7 rfl) (zE_ok) ?_; intro w' b1 b2 b3; replace HL := Lib.hid (HL.out.store 7 rfl b1 b2 b3); clear b1 b2 b3; try simp only [List.nil_append, List.cons_append, List.set_cons_zero, List.set_cons_succ] at HL) | (refine wpList_load_rowG (by kernel_rfl) 55 (.tmp 6) rfl _ rfl _ _ _ _ (HL.out.get 0 rfl) Tryd.underlying55 rfl (epo_info HO.out) ?_) | (refine wpList_load_rowG (by kernel_rfl) 23 (.tmp 7) rfl _ rfl _ _ _ _ (HL.out.get 1 rfl) Tryd.underlying23 rfl (key_info HCl.out) ?_))
    refine (C5.out _ HL.out.aft).mono ?_
    rintro r w7 ⟨rfl, hx⟩
    replace HL := Lib.hid (HL.out.call hx)
    clear hx
    go_wp2_with (first | (refine wpList_allocO rfl 23 rfl (.cells key0 23) alloc_key ?_; intro w' aa gg zz; replace HL := Lib.hid (HL.out.alloc aa gg.out); clear aa gg zz; try simp only [List.nil_append, List.cons_append, List.set_cons_zero, List.set_cons_succ] at HL) | (refine wpList_store_keyZ rfl (.tmp 22) (.tmp 82) rfl _ J L1.out rfl rfl _ (HL.out.get 8 rfl) key0_size ?_; intro w' b1 b2 b3; replace HL := Lib.hid (HL.out.store 8 rfl b1 b2 b3); clear b1 b2 b3; try simp only [List.nil_append, List.cons_append, List.set_cons_zero, List.set_cons_succ] at HL) | (refine wpList_load_rowG (by kernel_rfl) 55 (.tmp 6) rfl _ rfl _ _ _ _ (HL.out.get 0 rfl) Tryd.underlying55 rfl (epo_info HO.out) ?_) | (refine wpList_load_rowG (by kernel_rfl) 23 (.tmp 7) rfl _ rfl _ _ _ _ (HL.out.get 1 rfl) Tryd.underlying23 rfl (key_info HCl.out) ?_))
    refine (C6.out _ HL.out.aft).mono ?_
    rintro r w8 ⟨rfl, hx⟩
    replace HL := Lib.hid (HL.out.call hx)
    clear hx
    go_wp2_with (first | (refine wpList_allocO rfl 23 rfl (.cells key0 23) alloc_key ?_; intro w' aa gg zz; replace HL := Lib.hid (HL.out.alloc aa gg.out); clear aa gg zz; try simp only [List.nil_append, List.cons_append, List.set_cons_zero, List.set_cons_succ] at HL) | (refine wpList_store_keyZ rfl (.tmp 24) (.tmp 88) rfl _ J L1.out rfl rfl _ (HL.out.get 9 rfl) key0_size ?_; intro w' b1 b2 b3; replace HL := Lib.hid (HL.out.store 9 rfl b1 b2 b3); clear b1 b2 b3; try simp only [List.nil_append, List.cons_append, List.set_cons_zero, List.set_cons_succ] at HL) | (refine wpList_load_rowG (by kernel_rfl) 55 (.tmp 6) rfl _ rfl _ _ _ _ (HL.out.get 0 rfl) Tryd.underlying55 rfl (epo_info HO.out) ?_))
    refine (C7.out _ HL.out.aft).mono ?_
    rintro r w9 ⟨rfl, hx⟩
    replace HL := Lib.hid (HL.out.call hx)
    clear hx
    go_wp2_with (first | (refine wpList_allocO rfl 23 rfl (.cells key0 23) alloc_key ?_; intro w' aa gg zz; replace HL := Lib.hid (HL.out.alloc aa gg.out); clear aa gg zz; try simp only [List.nil_append, List.cons_append, List.set_cons_zero, List.set_cons_succ] at HL) | (refine wpList_store_keyZ rfl (.tmp 26) (.tmp 94) rfl _ H L2.out rfl rfl _ (HL.out.get 10 rfl) key0_size ?_; intro w' b1 b2 b3; replace HL := Lib.hid (HL.out.store 10 rfl b1 b2 b3); clear b1 b2 b3; try simp only [List.nil_append, List.cons_append, List.set_cons_zero, List.set_cons_succ] at HL) | (refine wpList_load_rowG (by kernel_rfl) 55 (.tmp 6) rfl _ rfl _ _ _ _ (HL.out.get 0 rfl) Tryd.underlying55 rfl (epo_info HO.out) ?_))
    refine (C8.out _ HL.out.aft).mono ?_
    rintro r w10 ⟨rfl, hx⟩
    replace HL := Lib.hid (HL.out.call hx)
    clear hx
    go_wp2_with (first | (refine wpList_allocO rfl 23 rfl (.cells key0 23) alloc_key ?_; intro w' aa gg zz; replace HL := Lib.hid (HL.out.alloc aa gg.out); clear aa gg zz; try simp only [List.nil_append, List.cons_append, List.set_cons_zero, List.set_cons_succ] at HL) | (refine wpList_store_keyZ rfl (.tmp 28) (.tmp 100) rfl _ H L2.out rfl rfl _ (HL.out.get 11 rfl) key0_size ?_; intro w' b1 b2 b3; replace HL := Lib.hid (HL.out.store 11 rfl b1 b2 b3); clear b1 b2 b3; try simp only [List.nil_append, List.cons_append, List.set_cons_zero, List.set_cons_succ] at HL) | (refine wpList_load_rowG (by kernel_rfl) 55 (.tmp 6) rfl _ rfl _ _ _ _ (HL.out.get 0 rfl) Tryd.underlying55 rfl (epo_info HO.out) ?_))
    refine (C9.out _ HL.out.aft).mono ?_
    rintro r w11 ⟨rfl, hx⟩
    replace HL := Lib.hid (HL.out.call hx)
    clear hx
    go_wp2_with (first | (refine wpList_allocO rfl 23 rfl (.cells key0 23) alloc_key ?_; intro w' aa gg zz; replace HL := Lib.hid (HL.out.alloc aa gg.out); clear aa gg zz; try simp only [List.nil_append, List.cons_append, List.set_cons_zero, List.set_cons_succ] at HL) | (refine wpList_store_keyZ rfl (.tmp 30) (.tmp 105) rfl _ T L3.out rfl rfl _ (HL.out.get 12 rfl) key0_size ?_; intro w' b1 b2 b3; replace HL := Lib.hid (HL.out.store 12 rfl b1 b2 b3); clear b1 b2 b3; try simp only [List.nil_append, List.cons_append, List.set_cons_zero, List.set_cons_succ] at HL) | (refine wpList_load_rowG (by kernel_rfl) 55 (.tmp 6) rfl _ rfl _ _ _ _ (HL.out.get 0 rfl) Tryd.underlying55 rfl (epo_info HO.out) ?_))
    refine (C10.out _ HL.out.aft).mono ?_
    rintro r w12 ⟨rfl, hx⟩
    replace HL := Lib.hid (HL.out.call hx)
    clear hx
    go_wp2_with (first | (refine wpList_allocO rfl 23 rfl (.cells key0 23) alloc_key ?_; intro w' aa gg zz; replace HL := Lib.hid (HL.out.alloc aa gg.out); clear aa gg zz; try simp only [List.nil_append, List.cons_append, List.set_cons_zero, List.set_cons_succ] at HL) | (refine wpList_store_keyZ rfl (.tmp 32) (.tmp 110) rfl _ T L3.out rfl rfl _ (HL.out.get 13 rfl) key0_size ?_; intro w13 b1 b2 b3; replace HL := Lib.hid (HL.out.store 13 rfl b1 b2 b3); clear b1 b2 b3))
    refine wp_region_lexF (fun i => ([0,0,0,0,0,0,0,0,0,0,0,0,0,0,0,0,0,0,0,0,0,0,0,0,0,0,0,0,0,0,0,0,0,0,0,0,0,0,0,0,0,0,0,0,0,0,0,0,0,0,0,0,0,2,0,2,0,0] : List Nat).getD i 0) 58 (by kernel_rfl) (by kernel_rfl) ?_; intro wr hwr
    replace HL := Lib.hid (HL.out.call (show Aft w13 wr by rw [hwr]; exact (Below.refl _ _).drew))
    clear hwr
    have HLr := HL
    repeat (first | (refine lf_skip (by go_big_quiet_skip; exact wpQuiet_nil trivial) (by kernel_rfl) ?_; simp only [Act.put, List.setIfInBounds_toArray, List.set_cons_succ, List.set_cons_zero]) | (refine lf_quiet rfl (by go_big_quiet_want; exact quiet_false (by assumption)) (by kernel_rfl) rfl ?_; intro Kx hKx; go_big_quiet_op; go_big_quiet_on))
    refine lf_load_row rfl (by kernel_rfl) 55 (.tmp 14) rfl _ rfl _ _ _ _ (HLr.out.get 4 rfl) Tryd.underlying55 rfl (epo_info O1.out) ?_
    simp only [Act.put, List.setIfInBounds_toArray, List.set_cons_succ, List.set_cons_zero]
    refine lf_load_row rfl (by kernel_rfl) 55 (.tmp 16) rfl _ rfl _ _ _ _ (HLr.out.get 5 rfl) Tryd.underlying55 rfl (epo_info O1.out) ?_
    simp only [Act.put, List.setIfInBounds_toArray, List.set_cons_succ, List.set_cons_zero]
    refine lf_bin rfl (by kernel_rfl) .eql 55 55 (.tmp 114) (.tmp 115) rfl _ _ _ rfl rfl (run_eql_epo O1.out) (guard_epoch _ _ _ _ _) ?_
    simp only [Act.put, List.setIfInBounds_toArray, List.set_cons_succ, List.set_cons_zero]
    repeat (first | (refine lf_skip (by go_big_quiet_skip; exact wpQuiet_nil trivial) (by kernel_rfl) ?_; simp only [Act.put, List.setIfInBounds_toArray, List.set_cons_succ, List.set_cons_zero]) | (refine lf_quiet rfl (by go_big_quiet_want; exact quiet_false (by assumption)) (by kernel_rfl) rfl ?_; intro Kx hKx; go_big_quiet_op; go_big_quiet_on))
    refine lf_load_row rfl (by kernel_rfl) 55 (.tmp 18) rfl _ rfl _ _ _ _ (HLr.out.get 6 rfl) Tryd.underlying55 rfl (epo_info O2.out) ?_
    simp only [Act.put, List.setIfInBounds_toArray, List.set_cons_succ, List.set_cons_zero]
    refine lf_load_row rfl (by kernel_rfl) 55 (.tmp 20) rfl _ rfl _ _ _ _ (HLr.out.get 7 rfl) Tryd.underlying55 rfl (epo_info O2.out) ?_
    simp only [Act.put, List.setIfInBounds_toArray, List.set_cons_succ, List.set_cons_zero]
    refine lf_bin rfl (by kernel_rfl) .eql 55 55 (.tmp 124) (.tmp 125) rfl _ _ _ rfl rfl (run_eql_epo O2.out) (guard_epoch _ _ _ _ _) ?_
    simp only [Act.put, List.setIfInBounds_toArray, List.set_cons_succ, List.set_cons_zero]
    repeat (first | (refine lf_skip (by go_big_quiet_skip; exact wpQuiet_nil trivial) (by kernel_rfl) ?_; simp only [Act.put, List.setIfInBounds_toArray, List.set_cons_succ, List.set_cons_zero]) | (refine lf_quiet rfl (by go_big_quiet_want; exact quiet_false (by assumption)) (by kernel_rfl) rfl ?_; intro Kx hKx; go_big_quiet_op; go_big_quiet_on))
    refine lf_load_key rfl (by kernel_rfl) (.tmp 22) rfl _ 0 rfl J (HLr.out.key 8 rfl L1.out) L1.out ?_
    simp only [Act.put, List.setIfInBounds_toArray, List.set_cons_succ, List.set_cons_zero]
    refine lf_load_key rfl (by kernel_rfl) (.tmp 24) rfl _ 0 rfl J (HLr.out.key 9 rfl L1.out) L1.out ?_
    simp only [Act.put, List.setIfInBounds_toArray, List.set_cons_succ, List.set_cons_zero]
    refine lf_bin rfl (by kernel_rfl) .eql 23 23 (.tmp 134) (.tmp 135) rfl _ _ _ rfl rfl (run_eql_key J L1.out) (guard_key _ _ _ _ _) ?_
    simp only [Act.put, List.setIfInBounds_toArray, List.set_cons_succ, List.set_cons_zero]
    repeat (first | (refine lf_skip (by go_big_quiet_skip; exact wpQuiet_nil trivial) (by kernel_rfl) ?_; simp only [Act.put, List.setIfInBounds_toArray, List.set_cons_succ, List.set_cons_zero]) | (refine lf_quiet rfl (by go_big_quiet_want; exact quiet_false (by assumption)) (by kernel_rfl) rfl ?_; intro Kx hKx; go_big_quiet_op; go_big_quiet_on))
    refine lf_load_key rfl (by kernel_rfl) (.tmp 26) rfl _ 0 rfl H (HLr.out.key 10 rfl L2.out) L2.out ?_
    simp only [Act.put, List.setIfInBounds_toArray, List.set_cons_succ, List.set_cons_zero]
    refine lf_load_key rfl (by kernel_rfl) (.tmp 28) rfl _ 0 rfl H (HLr.out.key 11 rfl L2.out) L2.out ?_
    simp only [Act.put, List.setIfInBounds_toArray, List.set_cons_succ, List.set_cons_zero]
    refine lf_bin rfl (by kernel_rfl) .eql 23 23 (.tmp 144) (.tmp 145) rfl _ _ _ rfl rfl (run_eql_key H L2.out) (guard_key _ _ _ _ _) ?_
    simp only [Act.put, List.setIfInBounds_toArray, List.set_cons_succ, List.set_cons_zero]
    repeat (first | (refine lf_skip (by go_big_quiet_skip; exact wpQuiet_nil trivial) (by kernel_rfl) ?_; simp only [Act.put, List.setIfInBounds_toArray, List.set_cons_succ, List.set_cons_zero]) | (refine lf_quiet rfl (by go_big_quiet_want; exact quiet_false (by assumption)) (by kernel_rfl) rfl ?_; intro Kx hKx; go_big_quiet_op; go_big_quiet_on))
    refine lf_load_key rfl (by kernel_rfl) (.tmp 30) rfl _ 0 rfl T (HLr.out.key 12 rfl L3.out) L3.out ?_
    simp only [Act.put, List.setIfInBounds_toArray, List.set_cons_succ, List.set_cons_zero]
    refine lf_load_key rfl (by kernel_rfl) (.tmp 32) rfl _ 0 rfl T (HLr.out.key 13 rfl L3.out) L3.out ?_
    simp only [Act.put, List.setIfInBounds_toArray, List.set_cons_succ, List.set_cons_zero]
    refine lf_bin rfl (by kernel_rfl) .eql 23 23 (.tmp 154) (.tmp 155) rfl _ _ _ rfl rfl (run_eql_key T L3.out) (guard_key _ _ _ _ _) ?_
    simp only [Act.put, List.setIfInBounds_toArray, List.set_cons_succ, List.set_cons_zero]
    repeat (first | (refine lf_skip (by go_big_quiet_skip; exact wpQuiet_nil trivial) (by kernel_rfl) ?_; simp only [Act.put, List.setIfInBounds_toArray, List.set_cons_succ, List.set_cons_zero]) | (refine lf_quiet rfl (by go_big_quiet_want; exact quiet_false (by assumption)) (by kernel_rfl) rfl ?_; intro Kx hKx; go_big_quiet_op; go_big_quiet_on))
    refine lf_load_row rfl (by kernel_rfl) 55 (.tmp 6) rfl _ rfl _ _ _ _ (HLr.out.get 0 rfl) Tryd.underlying55 rfl (epo_info HO.out) ?_
    simp only [Act.put, List.setIfInBounds_toArray, List.set_cons_succ, List.set_cons_zero]
    refine lf_eff rfl (by go_big_quiet_want; exact quiet_false (by assumption)) (by kernel_rfl) ?_
    intro wa ha Kx hKx
    replace HL := Lib.hid (HL.out.call ha)
    go_wp2_with fail
    refine (C11.out wa).mono ?_
    rintro r wb ⟨rfl, hb⟩
    go_wp2_with fail
    refine ⟨hb, ?_⟩
    replace HL := Lib.hid (HL.out.call hb)
    clear hb ha
    refine lf_load_row rfl (by kernel_rfl) 55 (.tmp 6) rfl _ rfl _ _ _ _ (HLr.out.get 0 rfl) Tryd.underlying55 rfl (epo_info HO.out) ?_
    simp only [Act.put, List.setIfInBounds_toArray, List.set_cons_succ, List.set_cons_zero]
    refine lf_eff rfl (by go_big_quiet_want; exact quiet_false (by assumption)) (by kernel_rfl) ?_
    intro wc hcc Kx hKx
    replace HL := Lib.hid (HL.out.call hcc)
    go_wp2_with fail
    refine (C12.out wc).mono ?_
    rintro r wd ⟨rfl, hd⟩
    go_wp2_with fail
    refine ⟨hd, ?_⟩
    replace HL := Lib.hid (HL.out.call hd)
    clear hd hcc
    repeat (first | (refine lf_skip (by go_big_quiet_skip; exact wpQuiet_nil trivial) (by kernel_rfl) ?_; simp only [Act.put, List.setIfInBounds_toArray, List.set_cons_succ, List.set_cons_zero]) | (refine lf_quiet rfl (by go_big_quiet_want; exact quiet_false (by assumption)) (by kernel_rfl) rfl ?_; intro Kx hKx; go_big_quiet_op; go_big_quiet_on))
    refine lf_done ?_
    intro wt htt
    replace HL := Lib.hid (HL.out.call htt)
    clear htt
    go_wp2_with fail
    go_ret
    exact ⟨rfl, HL.out.aft⟩
end Go.Proofs.YtanodhagpegbfaaDoor
