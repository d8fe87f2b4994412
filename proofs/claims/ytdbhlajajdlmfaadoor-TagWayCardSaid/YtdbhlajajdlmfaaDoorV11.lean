/- coterielaw13.live. -/
import Derived.Test.YtdbhlajajdlmfaaDoorV7
import Derived.Test.YtdbhlajajdlmfaaDoorV9
import Derived.Test.YtdbhlajajdlmfaaDoorV10
namespace Go.Proofs.YtdbhlajajdlmfaaDoor
open Go Go.RowKit
set_option linter.unusedSimpArgs false
def key1 : Byt := 1 :: List.replicate 31 0
theorem live_ok : tagOk 1 [7] [] [key1] := by decide +kernel
theorem live_small : Small [7] [] := ⟨by decide, by decide, fun l h => by cases h⟩
theorem key1_len : key1.length = 32 := rfl
theorem key1_all : ∀ k ∈ [key1], k.length = 32 := fun k h => by rw [List.mem_singleton.1 h]; rfl
theorem rd_row {w : World} {g t : Nat} {l : Byt} {n : Nat} {fr : Nat × Nat} (hn : l.length = n) (hm : l.length ≤ maxLen) (hg : w.heap[g]? = some (.cells (bv l).toArray t fr)) : Rd w (.slice (some ⟨g, 0, none⟩) n n) (bv l) := by
  refine ⟨some ⟨g, 0, none⟩, n, by rw [bv_length, hn], by rw [bv_length, hn]; exact Nat.le_refl _, by unfold maxLen at hm; omega, fun e => (by cases e), fun ad ha j u hu => ?_⟩
  cases ha
  rw [Addr.add_lit, Nat.zero_add]
  exact cell_part hg hu
theorem run_ints7 (w : World) : (Instr.buildSlice 22 1 #[(0, .int .i64 7)]).run Tryd.prog w = .ok (.slice (some ⟨w.heap.size, 0, none⟩) 1 1) (w.alloc (.cells (zv [7]).toArray 3)) := by kernel_rfl
theorem run_key1 (w : World) : (Instr.build 30 #[(0, .int .u8 1)]).run Tryd.prog w = .ok (.agg (bv key1).toArray) w := by kernel_rfl
theorem run_keys1 (w : World) : (Instr.buildSlice 26 1 #[(0, .agg (bv key1).toArray)]).run Tryd.prog w = .ok (.slice (some ⟨w.heap.size, 0, none⟩) 1 1) (w.alloc (.cells (ksL [key1]).toArray 30)) := by kernel_rfl
theorem run_tree (a b : Option Addr) (n c m d : Nat) (w : World) : (Instr.build 28 #[(0, .int .i64 1), (1, .agg #[.slice a n c, .slice none 0 0]), (2, .slice b m d)]).run Tryd.prog w = .ok (.agg (trL 1 (.slice a n c) (.slice none 0 0) (.slice b m d)).toArray) w := by kernel_rfl
set_option maxRecDepth 100000 in
set_option maxHeartbeats 4000000 in
theorem live13_any (w : World) (hk : TabK K0 1 w) : Calls Tryd.prog 8 #[] w fun e w' => e = .returned (.bool true) ∧ Aft w w' := by
  have HSs := Lib.hid (fun (wx : World) (vi vp : Value) (ha : Aft w wx) (h : RdTr wx vi (.slice none 0 0) vp [7] [] [key1]) => tsums_any 1 vi (.slice none 0 0) vp [7] [] [key1] wx (TabK_fr hk (Fr.of_below (S := fun _ => False) ha) (fun h => h)) h live_small (by decide))
  have HSm := Lib.hid (fun (wx : World) (vi vp : Value) (ha : Aft w wx) (h : RdTr wx vi (.slice none 0 0) vp [7] [] [key1]) => gsum_any 1 vi (.slice none 0 0) vp [7] [] [key1] wx (TabK_fr hk (Fr.of_below (S := fun _ => False) ha) (fun h => h)) h live_small (by decide))
  have HCk := Lib.hid (fun (wx : World) (vi vp : Value) (h : RdTr wx vi (.slice none 0 0) vp [7] [] [key1]) => tchk_any 1 vi (.slice none 0 0) vp [7] [] [key1] wx h live_small (by decide))
  have HL := Lib.hid (Led.start w)
  clear hk
  go_enter Tryd.func8, Tryd.ntmps8
  go_wp2_with (first | (refine wpList_dstT 6 rfl ?_; refine wpList_bs1 (by kernel_rfl) 22 _ rfl _ rfl _ run_ints7 ?_; intro wa aa gg zz; replace HL := Lib.hid (HL.out.alloc aa gg.out); clear aa gg zz; (try simp only [List.nil_append, List.cons_append, List.set_cons_zero, List.set_cons_succ] at HL)) | (refine wpList_dstT 8 rfl ?_; refine wpList_buildO (by kernel_rfl) 30 _ rfl #[(0, .int .u8 1)] (by kernel_rfl) _ (run_key1 _) ?_) | (refine wpList_dstT 9 rfl ?_; refine wpList_bs1 (by kernel_rfl) 26 _ rfl (.agg (bv key1).toArray) rfl _ run_keys1 ?_; intro wb aa gg zz; replace HL := Lib.hid (HL.out.alloc aa gg.out); clear aa gg zz; (try simp only [List.nil_append, List.cons_append, List.set_cons_zero, List.set_cons_succ] at HL)) | (refine wpList_dstT 10 rfl ?_; refine wpList_buildO (by kernel_rfl) 28 _ rfl #[(0, .int .i64 1), (1, .agg #[.slice (some ⟨w.heap.size, 0, none⟩) 1 1, .slice none 0 0]), (2, .slice (some ⟨wa.heap.size, 0, none⟩) 1 1)] (by kernel_rfl) _ (run_tree _ _ _ _ _ _ _) ?_) | (refine wpList_dstT 1 rfl ?_; refine wpList_allocO rfl 28 rfl (.cells (trL 0 (.slice none 0 0) (.slice none 0 0) (.slice none 0 0)).toArray 28) alloc_tr ?_; intro wc aa gg zz; replace HL := Lib.hid (HL.out.alloc aa gg.out); clear aa gg zz; (try simp only [List.nil_append, List.cons_append, List.set_cons_zero, List.set_cons_succ] at HL)) | (refine wpList_store_rowZ rfl 28 (.tmp 1) (.tmp 10) rfl _ (trL 1 (.slice (some ⟨w.heap.size, 0, none⟩) 1 1) (.slice none 0 0) (.slice (some ⟨wa.heap.size, 0, none⟩) 1 1)).toArray rfl rfl _ _ (HL.out.get 2 rfl) (tr_info _ _ _ _) rfl (all_one (trL_one _ _ _ _ rfl rfl rfl)) ?_; intro wd q1 q2 q3; replace HL := Lib.hid (HL.out.store 2 rfl q1 q2 q3); clear q1 q2 q3; (try simp only [List.nil_append, List.cons_append, List.set_cons_zero, List.set_cons_succ] at HL)) | (refine wpList_dstT 12 rfl ?_; refine wpList_load_rowG (by kernel_rfl) 28 (.tmp 1) rfl _ rfl _ _ _ _ (HL.out.get 2 rfl) Tryd.underlying28 rfl (tr_info _ _ _ _) ?_))
  have HR := Lib.hid (fun (wx : World) (ha : Aft wd wx) => show RdTr wx (.slice (some ⟨w.heap.size, 0, none⟩) 1 1) (.slice none 0 0) (.slice (some ⟨wa.heap.size, 0, none⟩) 1 1) [7] [] [key1] from ⟨Rd.of_own (own_blk (xs := zv [7]) (Aft.get ha (HL.out.get 0 rfl)) (Nat.le_refl _) (show 1 ≤ maxLen by decide)), (OwnTr.nil wx 0).lv.rd, (own_keys_blk (ks := [key1]) key1_all (Aft.get ha (HL.out.get 1 rfl)) (Nat.le_refl _) (show 1 ≤ maxLen by decide)).rd⟩)
  have HA := Lib.hid (Aft.refl wd)
  have HE := Lib.hid (show tagE 1 [7] [] [key1] = 0 from if_pos live_ok)
  refine (HSs.out _ _ _ HL.out.aft (HR.out _ HA.out)).mono ?_
  rintro e w2 ⟨v, rfl, ho, h2⟩
  replace HL := Lib.hid (HL.out.call h2)
  replace HA := Lib.hid (Aft.trans HA.out h2)
  have HS1 := tsums_len live_ok
  obtain ⟨g, o, c2, hv, hkl, hr⟩ := ho.rd.at (i := 0) (by rw [HS1]; decide)
  rw [HS1] at hv
  change v = .slice (some ⟨g, o, none⟩) 1 c2 at hv
  subst hv
  have hX : gsum 1 [7] [] [key1] = (tsums 1 [7] [] [key1]).getD 0 [] := by
    show (tsums 1 [7] [] [key1]).getD 0 kzero = _
    rw [List.getD_eq_getElem?_getD, List.getD_eq_getElem?_getD, List.getElem?_eq_getElem (by rw [HS1]; decide)]
    rfl
  rw [← hX] at hkl hr
  rw [Nat.zero_mul, Nat.add_zero] at hr
  have HKl := Lib.hid hkl
  have HRk := Lib.hid (fun (wx : World) (ha : Aft w2 wx) => hr.grow ha)
  rw [HE.out]
  clear ho h2 HS1 hX hkl hr HSs
  generalize gsum 1 [7] [] [key1] = X at *
  have HA2 := Lib.hid (Aft.refl w2)
  go_wp2_with (first | (refine wpList_dstT 17 rfl ?_; refine wpList_load_rowG (by kernel_rfl) 28 (.tmp 1) rfl _ rfl _ _ _ _ (HL.out.get 2 rfl) Tryd.underlying28 rfl (tr_info _ _ _ _) ?_))
  refine (HSm.out _ _ _ HL.out.aft (HR.out _ HA.out)).mono ?_
  rintro e w3 ⟨rfl, h3⟩
  rw [HE.out]
  replace HL := Lib.hid (HL.out.call h3)
  replace HA := Lib.hid (Aft.trans HA.out h3)
  replace HA2 := Lib.hid (Aft.trans HA2.out h3)
  clear h3 HSm
  go_wp2_with (first | (refine wpList_dstT 4 rfl ?_; refine wpList_allocO rfl 30 rfl (.cells key0 30) alloc_key ?_; intro w4 aa gg zz; have HA0 := Lib.hid (Below.size HA.out); have HA20 := Lib.hid (Below.size HA2.out); replace HA := Lib.hid (Aft.trans HA.out aa); replace HA2 := Lib.hid (Aft.trans HA2.out aa); replace HL := Lib.hid (HL.out.alloc aa gg.out); clear aa gg zz; (try simp only [List.nil_append, List.cons_append, List.set_cons_zero, List.set_cons_succ] at HL)) | (refine wpList_store_keyZ rfl (.tmp 4) (.tmp 19) rfl _ X HKl.out rfl rfl _ (HL.out.get 3 rfl) key0_size ?_; intro w5 q1 q2 q3; replace HA := Lib.hid (q3 _ _ HA0.out HA.out); replace HA2 := Lib.hid (q3 _ _ HA20.out HA2.out); replace HL := Lib.hid (HL.out.store 3 rfl q1 q2 q3); clear q1 q2 q3; (try simp only [List.nil_append, List.cons_append, List.set_cons_zero, List.set_cons_succ] at HL)))
  have HDr := Lib.hid (show Aft w5 w5.drew from (Below.refl _ _).drew)
  go_wp2_with (first | (refine wp_region_lex (fun wz => ∃ u : Later w5.heap.size w5, wz = u.w) (fun i => ([20] : List Nat).contains i) 23 (by kernel_rfl) (by kernel_rfl) ⟨⟨w5.drew, (Below.refl _ _).drew⟩, rfl⟩ ?_))
  change wpLx _ _ _ _ _ _ _ _ _ w5.drew
  try simp only [Act.put]
  repeat (first | (refine lx_skipT (by go_big_quiet_skip; exact wpQuiet_nil trivial) (by kernel_rfl) ?_; simp only [Act.put, List.setIfInBounds_toArray, List.set_cons_succ, List.set_cons_zero]) | (refine lx_quietT rfl (by go_big_quiet_want; exact quiet_false (by assumption)) (by kernel_rfl) rfl ?_; intro Kx hKx; go_big_quiet_op; go_big_quiet_on))
  refine lx_key rfl (by kernel_rfl) (.tmp 34) rfl g o rfl X HKl.out (fun wz h => by obtain ⟨u, rfl⟩ := h; exact HRk.out _ (Aft.trans HA2.out u.h)) ?_
  try simp only [Act.put, List.setIfInBounds_toArray, List.set_cons_succ, List.set_cons_zero]
  refine lx_key rfl (by kernel_rfl) (.tmp 4) rfl _ 0 rfl X HKl.out (fun wz h => by obtain ⟨u, rfl⟩ := h; exact rd_row HKl.out (by rw [HKl.out]; decide) (Aft.get u.h (HL.out.get 3 rfl))) ?_
  try simp only [Act.put, List.setIfInBounds_toArray, List.set_cons_succ, List.set_cons_zero]
  refine lx_bin rfl (by kernel_rfl) .eql 30 30 (.tmp 35) (.tmp 36) rfl (.agg (bv X).toArray) (.agg (bv X).toArray) (.bool true) rfl rfl (fun w1 => run_eql_key X HKl.out w1) (fun w1 => guard_key _ _ _ _ _ _) ?_
  try simp only [Act.put, List.setIfInBounds_toArray, List.set_cons_succ, List.set_cons_zero]
  repeat (first | (refine lx_skipT (by go_big_quiet_skip; exact wpQuiet_nil trivial) (by kernel_rfl) ?_; simp only [Act.put, List.setIfInBounds_toArray, List.set_cons_succ, List.set_cons_zero]) | (refine lx_quietT rfl (by go_big_quiet_want; exact quiet_false (by assumption)) (by kernel_rfl) rfl ?_; intro Kx hKx; go_big_quiet_op; go_big_quiet_on))
  refine lx_load_agg rfl (by kernel_rfl) 28 (.tmp 1) rfl ⟨_, 0, none⟩ rfl (trL 1 (.slice (some ⟨w.heap.size, 0, none⟩) 1 1) (.slice none 0 0) (.slice (some ⟨wa.heap.size, 0, none⟩) 1 1)).toArray (fun wz h => by obtain ⟨u, rfl⟩ := h; exact run_loadVar_row _ _ _ _ _ _ _ (Aft.get u.h (HL.out.get 2 rfl)) Tryd.underlying28 rfl (tr_info _ _ _ _)) ?_
  try simp only [Act.put, List.setIfInBounds_toArray, List.set_cons_succ, List.set_cons_zero]
  refine lx_effT rfl (by go_big_quiet_want; exact quiet_false (by assumption)) (by kernel_rfl) ?_; intro Kx hKx; go_wp2_with fail
  refine (HCk.out _ _ _ (HR.out _ (Aft.trans HA.out (show Aft w5 w5.drew from (Below.refl _ _).drew)))).mono ?_
  rintro e w6 ⟨rfl, h6⟩
  rw [HE.out]
  go_wp2_with fail
  refine ⟨Later.on (Aft.trans HDr.out h6), ?_⟩
  replace HDr := Lib.hid (Aft.trans HDr.out h6)
  clear h6
  repeat (first | (refine lx_skipT (by go_big_quiet_skip; exact wpQuiet_nil trivial) (by kernel_rfl) ?_; simp only [Act.put, List.setIfInBounds_toArray, List.set_cons_succ, List.set_cons_zero]) | (refine lx_quietT rfl (by go_big_quiet_want; exact quiet_false (by assumption)) (by kernel_rfl) rfl ?_; intro Kx hKx; go_big_quiet_op; go_big_quiet_on))
  refine lx_done ?_
  go_wp2_with fail
  go_ret
  exact ⟨rfl, Aft.trans HL.out.aft HDr.out⟩
end Go.Proofs.YtdbhlajajdlmfaaDoor
