/- sched.Next, and the document's. -/
import Derived.Test.YtanodhagpegbfaaDoorSched1
import Derived.Test.YtanodhagpegbfaaDoorEnter
namespace Go.Proofs.YtanodhagpegbfaaDoor
open Go Go.RowKit
def nxtE (e : Epo) (c t x : List (BitVec 8)) : Epo := if e.N = 1099511627776 ∨ hsE e x ≠ 0 then zE else enE (jnK e c) (e.N + 1) t (hsK e x)
def nxtF (e : Epo) (x : List (BitVec 8)) : Int := if e.N = 1099511627776 then 8 else hsE e x
theorem jnK_length (e : Epo) (c : List (BitVec 8)) : (jnK e c).length = 32 := by
  unfold jnK
  split
  · exact macOf_length _ _ _
  · exact List.length_replicate
theorem hsK_length (e : Epo) (t : List (BitVec 8)) : (hsK e t).length = 32 := by
  unfold hsK
  split
  · exact digest_length _ _
  · exact List.length_replicate
theorem nxtE_ok (e : Epo) (c t x : List (BitVec 8)) : (nxtE e c t x).Ok := by
  unfold nxtE
  split
  · exact zE_ok
  · exact enE_ok (hsK_length _ _)
theorem hsE_small {e : Epo} {x : List (BitVec 8)} (h : hsE e x = 0) : e.N ≤ 1099511627776 := by
  unfold hsE at h
  split at h
  · cases h
  · omega
set_option maxRecDepth 100000 in
set_option maxHeartbeats 4000000 in
theorem nextE_any (e : Epo) (c t : List (BitVec 8)) (vx : Value) (x : List (BitVec 8)) (w : World) (hK : TabK K0 2 w) (ho : e.Ok) (hc : c.length = 32) (ht : t.length = 32) (hr : Rd w vx (bv x)) :
    Calls Tryd.prog 37 #[.agg (epoL e).toArray, .agg (bv c).toArray, .agg (bv t).toArray, vx] w fun r w' => r = .returned (.tuple #[.agg (epoL (nxtE e c t x)).toArray, .int .i64 (nxtF e x)]) ∧ Aft w w' := by
  have HK := Lib.hid hK
  have HO := Lib.hid ho
  have HCl := Lib.hid hc
  have HTl := Lib.hid ht
  have HH := Lib.hid (fun (wx : World) (h : Aft w wx) => hash_any e vx x wx (TabK_fr HK.out (Fr.of_below (S := fun _ => False) h) (fun h => h)) ho (hr.grow h))
  have HJ := Lib.hid (fun (wx : World) (h : Aft w wx) => joiner_any e c wx (TabK_fr HK.out (Fr.of_below (S := fun _ => False) h) (fun h => h)) ho hc)
  have HE := Lib.hid (show ∀ wx : World, Aft w wx → e.N < 1099511627776 → Calls Tryd.prog 39 #[.agg (bv (jnK e c)).toArray, .int .u64 ((e.N : Int) + 1), .agg (bv t).toArray, .agg (bv (hsK e x)).toArray] wx fun r w' => r = .returned (.tuple #[.agg (epoL (enE (jnK e c) (e.N + 1) t (hsK e x))).toArray, .int .i64 0]) ∧ Aft wx w' from fun wx h hN => by
    have := enter_any (jnK e c) t (hsK e x) (e.N + 1) wx (TabK_fr HK.out (Fr.of_below (S := fun _ => False) h) (fun h => h)) (jnK_length _ _) ht (hsK_length _ _) (by omega)
    rw [show epChk (e.N + 1) = 0 from if_pos (by omega)] at this
    exact this)
  have HJl := Lib.hid (jnK_length e c)
  have HHl := Lib.hid (hsK_length e x)
  have HEo := Lib.hid (show (enE (jnK e c) (e.N + 1) t (hsK e x)).Ok from enE_ok (hsK_length _ _))
  have Q1 := Lib.hid (show e.N = 1099511627776 → nxtE e c t x = zE ∧ nxtF e x = 8 from fun h => ⟨if_pos (.inl h), if_pos h⟩)
  have Q2 := Lib.hid (show e.N ≠ 1099511627776 → hsE e x ≠ 0 → nxtE e c t x = zE ∧ nxtF e x = hsE e x from fun h h2 => ⟨if_pos (.inr h2), if_neg h⟩)
  have Q3 := Lib.hid (show e.N ≠ 1099511627776 → hsE e x = 0 → nxtE e c t x = enE (jnK e c) (e.N + 1) t (hsK e x) ∧ nxtF e x = 0 ∧ e.N < 1099511627776 ∧ epChk e.N = 0 from fun h h2 => ⟨if_neg (by simp [h, h2]), (if_neg h).trans h2, by have := hsE_small h2; omega, if_pos (hsE_small h2)⟩)
  have Q4 := Lib.hid (show ¬ e.N ≤ 1099511627776 → hsE e x = 1 ∧ epChk e.N = 1 from fun h => ⟨by unfold hsE; rw [if_pos (by omega)], if_neg h⟩)
  obtain ⟨ax, cx, rfl, -, -, -, -⟩ := hr
  have HL := Lib.hid (Led.start w)
  clear hK ho hc ht
  generalize enE (jnK e c) (e.N + 1) t (hsK e x) = E2 at *
  generalize nxtE e c t x = E at *
  generalize nxtF e x = F at *
  generalize jnK e c = J at *
  generalize hsK e x = H at *
  generalize hsE e x = f at *
  go_enter Tryd.func37, Tryd.ntmps37
  by_cases h8 : (e.N : Int) = 1099511627776
  · obtain ⟨q1, q2⟩ := Q1.out (by omega)
    have HQ1 := Lib.hid q1
    have HQ2 := Lib.hid q2
    clear q1 q2
    go_wp2_with (first | (refine wpList_boxO rfl 55 (.tmp 0) rfl (.agg (epoL e).toArray) rfl (.cells (epoL e).toArray 55) (box_epoch _) ?_; intro w' aa gg zz; replace HL := Lib.hid (HL.out.alloc aa gg.out); clear aa gg zz) | (refine wpList_boxO rfl 23 (.tmp 1) rfl (.agg (bv c).toArray) rfl (.cells (bv c).toArray 23) (box_key _) ?_; intro w' aa gg zz; replace HL := Lib.hid (HL.out.alloc aa gg.out); clear aa gg zz) | (refine wpList_boxO rfl 23 (.tmp 2) rfl (.agg (bv t).toArray) rfl (.cells (bv t).toArray 23) (box_key _) ?_; intro w' aa gg zz; replace HL := Lib.hid (HL.out.alloc aa gg.out); clear aa gg zz) | (refine wpList_allocO rfl 55 rfl (.cells (epoL zE).toArray 55) alloc_epoch ?_; intro w' aa gg zz; replace HL := Lib.hid (HL.out.alloc aa gg.out); clear aa gg zz; have hn := epo_n (HL.out.get 0 rfl)) | (refine wpList_buildO (by kernel_rfl) 55 #[] rfl #[] (by kernel_rfl) _ (build_epoch0) ?_) | (refine wpList_store_epoZ rfl (.tmp 8) (.tmp 16) rfl _ _ zE_ok rfl rfl _ (HL.out.get 3 rfl) (zE_ok) ?_; intro w' b1 b2 b3; replace HL := Lib.hid (HL.out.store 3 rfl b1 b2 b3); clear b1 b2 b3))
    refine bodyPost_ret (results_cell_tmp rfl _ _ _ 55 _ (0, 0) _ rfl (HL.out.get 3 rfl) Tryd.underlying55 rfl (epo_info zE_ok)) rfl ?_
    exact ⟨by rw [HQ1.out, HQ2.out]; rfl, HL.out.aft⟩
  · have h8n := Lib.hid (show e.N ≠ 1099511627776 by omega)
    go_wp2_with (first | (refine wpList_boxO rfl 55 (.tmp 0) rfl (.agg (epoL e).toArray) rfl (.cells (epoL e).toArray 55) (box_epoch _) ?_; intro w' aa gg zz; replace HL := Lib.hid (HL.out.alloc aa gg.out); clear aa gg zz) | (refine wpList_boxO rfl 23 (.tmp 1) rfl (.agg (bv c).toArray) rfl (.cells (bv c).toArray 23) (box_key _) ?_; intro w' aa gg zz; replace HL := Lib.hid (HL.out.alloc aa gg.out); clear aa gg zz) | (refine wpList_boxO rfl 23 (.tmp 2) rfl (.agg (bv t).toArray) rfl (.cells (bv t).toArray 23) (box_key _) ?_; intro w' aa gg zz; replace HL := Lib.hid (HL.out.alloc aa gg.out); clear aa gg zz) | (refine wpList_allocO rfl 55 rfl (.cells (epoL zE).toArray 55) alloc_epoch ?_; intro w' aa gg zz; replace HL := Lib.hid (HL.out.alloc aa gg.out); clear aa gg zz; have hn := epo_n (HL.out.get 0 rfl)) | (refine wpList_load_rowG (by kernel_rfl) 55 (.tmp 4) rfl _ rfl _ _ _ _ (HL.out.get 0 rfl) Tryd.underlying55 rfl (epo_info HO.out) ?_))
    refine (HH.out _ HL.out.aft).mono ?_
    rintro r w3 ⟨rfl, h3⟩
    replace HL := Lib.hid (HL.out.call h3)
    clear h3 hn h8
    by_cases hf : f = 0
    · obtain ⟨q1, q2, q3, q4⟩ := Q3.out h8n.out hf
      subst hf
      have HQ1 := Lib.hid q1
      have HQ2 := Lib.hid q2
      have HQ3 := Lib.hid q3
      rw [q4] at HJ
      clear q1 q2 q3 q4
      go_wp2_with (first | (refine wpList_allocO rfl 23 rfl (.cells key0 23) alloc_key ?_; intro w' aa gg zz; replace HL := Lib.hid (HL.out.alloc aa gg.out); clear aa gg zz) | (refine wpList_store_keyZ rfl (.tmp 10) (.tmp 21) rfl _ H HHl.out rfl rfl _ (HL.out.get 4 rfl) key0_size ?_; intro w' b1 b2 b3; replace HL := Lib.hid (HL.out.store 4 rfl b1 b2 b3); clear b1 b2 b3) | (refine wpList_load_rowG (by kernel_rfl) 55 (.tmp 4) rfl _ rfl _ _ _ _ (HL.out.get 0 rfl) Tryd.underlying55 rfl (epo_info HO.out) ?_) | (refine wpList_load_rowG (by kernel_rfl) 23 (.tmp 5) rfl _ rfl _ _ _ _ (HL.out.get 1 rfl) Tryd.underlying23 rfl (key_info HCl.out) ?_))
      refine (HJ.out _ HL.out.aft).mono ?_
      rintro r w4 ⟨rfl, h4⟩
      replace HL := Lib.hid (HL.out.call h4)
      clear h4
      have hN3 : (e.N : Int) + 1 < 18446744073709551616 := by have := HQ3.out; omega
      go_wp2_with (first | (refine wpList_allocO rfl 23 rfl (.cells key0 23) alloc_key ?_; intro w' aa gg zz; replace HL := Lib.hid (HL.out.alloc aa gg.out); clear aa gg zz) | (refine wpList_store_keyZ rfl (.tmp 12) (.tmp 31) rfl _ J HJl.out rfl rfl _ (HL.out.get 5 rfl) key0_size ?_; intro w' b1 b2 b3; replace HL := Lib.hid (HL.out.store 5 rfl b1 b2 b3); clear b1 b2 b3; have hn := epo_n (HL.out.get 0 rfl)) | (refine wpList_load_rowG (by kernel_rfl) 23 (.tmp 12) rfl _ rfl _ _ _ _ (HL.out.get 5 rfl) Tryd.underlying23 rfl (key_info HJl.out) ?_) | (refine wpList_load_rowG (by kernel_rfl) 23 (.tmp 6) rfl _ rfl _ _ _ _ (HL.out.get 2 rfl) Tryd.underlying23 rfl (key_info HTl.out) ?_) | (refine wpList_load_rowG (by kernel_rfl) 23 (.tmp 10) rfl _ rfl _ _ _ _ (HL.out.get 4 rfl) Tryd.underlying23 rfl (key_info HHl.out) ?_))
      refine (HE.out _ HL.out.aft HQ3.out).mono ?_
      rintro r w5 ⟨rfl, h5⟩
      replace HL := Lib.hid (HL.out.call h5)
      clear h5 hn hN3
      go_wp2_with (first | (refine wpList_store_epoZ rfl (.tmp 8) (.tmp 44) rfl _ _ HEo.out rfl rfl _ (HL.out.get 3 rfl) (zE_ok) ?_; intro w' b1 b2 b3; replace HL := Lib.hid (HL.out.store 3 rfl b1 b2 b3); clear b1 b2 b3))
      refine bodyPost_ret (results_cell_tmp rfl _ _ _ 55 _ (0, 0) _ rfl (HL.out.get 3 rfl) Tryd.underlying55 rfl (epo_info HEo.out)) rfl ?_
      exact ⟨by rw [HQ1.out, HQ2.out]; rfl, HL.out.aft⟩
    · obtain ⟨q1, q2⟩ := Q2.out h8n.out hf
      have HQ1 := Lib.hid q1
      have HQ2 := Lib.hid q2
      clear q1 q2
      go_wp2_with (first | (refine wpList_allocO rfl 23 rfl (.cells key0 23) alloc_key ?_; intro w' aa gg zz; replace HL := Lib.hid (HL.out.alloc aa gg.out); clear aa gg zz) | (refine wpList_store_keyZ rfl (.tmp 10) (.tmp 21) rfl _ H HHl.out rfl rfl _ (HL.out.get 4 rfl) key0_size ?_; intro w' b1 b2 b3; replace HL := Lib.hid (HL.out.store 4 rfl b1 b2 b3); clear b1 b2 b3) | (refine wpList_buildO (by kernel_rfl) 55 #[] rfl #[] (by kernel_rfl) _ (build_epoch0) ?_) | (refine wpList_store_epoZ rfl (.tmp 8) (.tmp 25) rfl _ _ zE_ok rfl rfl _ (HL.out.get 3 rfl) (zE_ok) ?_; intro w' b1 b2 b3; replace HL := Lib.hid (HL.out.store 3 rfl b1 b2 b3); clear b1 b2 b3))
      refine bodyPost_ret (results_cell_tmp rfl _ _ _ 55 _ (0, 0) _ rfl (HL.out.get 3 rfl) Tryd.underlying55 rfl (epo_info zE_ok)) rfl ?_
      exact ⟨by rw [HQ1.out, HQ2.out]; rfl, HL.out.aft⟩
end Go.Proofs.YtanodhagpegbfaaDoor
