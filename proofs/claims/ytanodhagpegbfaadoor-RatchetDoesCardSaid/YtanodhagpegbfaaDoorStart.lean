/- ratchet.Start. -/
import Derived.Test.YtanodhagpegbfaaDoorRat
namespace Go.Proofs.YtanodhagpegbfaaDoor
open Go Go.RowKit
set_option linter.unusedSimpArgs false
theorem num_four (w : World) (x : Nat) (hx : x < 4294967296) :
    Calls Tryd.prog 73 #[.slice none 0 0, .int .i64 4, .slice (some ⟨w.heap.size, 0, none⟩) 1 1] (w.alloc (.cells #[.int .u64 (x : Int)] 37)) fun e w' => ∃ ao cap, e = .returned (.tuple #[.slice ao 4 cap, .int .i64 0]) ∧ Rd w' (.slice ao 4 cap) (bv (beL 4 x)) ∧ Aft w w' := by
  refine (num_any (.slice none 0 0) (.slice (some ⟨w.heap.size, 0, none⟩) 1 1) [] 4 [x] _ (Rd.nil _) (Rd.lit w #[.int .u64 (x : Int)] 37 1 rfl (by decide)) (by simp; omega) (by simp) (by simp)).mono ?_
  rintro e w' ⟨ao, cap, rfl, ho, hb⟩
  have hok : numOk 4 [x] = true := by
    have : x < 256 ^ 4 := by simpa using hx
    simp [numOk, overB, fitsB]
    omega
  have h1 : numB [] 4 [x] = beL 4 x := by unfold numB; rw [if_pos hok]; simp [numsB]
  have h2 : numErr 4 [x] = 0 := if_pos hok
  rw [h1] at ho ⊢
  rw [h2]
  have hl : (bv (beL 4 x)).length = 4 := by rw [bv_length, beL_length]
  rw [hl] at ho ⊢
  exact ⟨ao, cap, rfl, Rd.of_own ho, Aft.trans (Aft.alloc w _) hb⟩
def senderS : List (BitVec 8) := [115, 101, 110, 100, 101, 114]
def stE (z : Int) : Int := if 0 ≤ z ∧ z ≤ 1048576 then 0 else 1
def stC (k : List (BitVec 8)) (z : Int) : List (BitVec 8) := if 0 ≤ z ∧ z ≤ 1048576 then drvKey k senderS [beL 4 z.toNat] else List.replicate 32 0
theorem stC_length (k : List (BitVec 8)) (z : Int) : (stC k z).length = 32 := by
  unfold stC
  split
  · exact drvKey_length _ _ _
  · exact List.length_replicate
set_option maxRecDepth 100000 in
set_option maxHeartbeats 4000000 in
theorem start_any (k : List (BitVec 8)) (z : Int) (w : World) (hK : TabK K0 2 w) (hk : k.length = 32) :
    Calls Tryd.prog 55 #[.agg (bv k).toArray, .int .i64 z] w fun r w' => r = .returned (.tuple #[.agg (ratL (stC k z) 0 (.slice none 0 0)).toArray, .int .i64 (stE z)]) ∧ Aft w w' := by
  have HK := Lib.hid hK
  have HKl := Lib.hid hk
  have HD := Lib.hid (fun (x : Nat) (wx : World) (vc : Value) (h : Aft w wx) (hr : RdAll wx vc [beL 4 x]) => derive_any k ⟨#[115, 101, 110, 100, 101, 114]⟩ vc [beL 4 x] wx (TabK_fr HK.out (Fr.of_below (S := fun _ => False) h) (fun h => h)) hk hr (by decide) (by simp) (fun h => texts_few h (by simp [drvT])))
  unfold DrvSays at HD
  have HL := Lib.hid (Led.start w)
  clear hK hk
  go_enter Tryd.func55, Tryd.ntmps55
  by_cases h1 : z < 0
  · have HQ1 := Lib.hid (show stC k z = List.replicate 32 0 from if_neg (by omega))
    have HQ2 := Lib.hid (show stE z = 1 from if_neg (by omega))
    go_wp2_with (first | (refine wpList_boxO rfl 23 (.tmp 0) rfl (.agg (bv k).toArray) rfl (.cells (bv k).toArray 23) (box_key _) ?_; intro w' aa gg zz; replace HL := Lib.hid (HL.out.alloc aa gg.out); clear aa gg zz; try simp only [List.nil_append, List.cons_append, List.set_cons_zero, List.set_cons_succ] at HL) | (refine wpList_allocO rfl 71 rfl (.cells (ratL (List.replicate 32 0) 0 (.slice none 0 0)).toArray 71) alloc_rat ?_; intro w' aa gg zz; replace HL := Lib.hid (HL.out.alloc aa gg.out); clear aa gg zz; try simp only [List.nil_append, List.cons_append, List.set_cons_zero, List.set_cons_succ] at HL) | (refine wpList_buildO (by kernel_rfl) 71 #[] rfl #[] (by kernel_rfl) _ (build_rat0) ?_) | (refine wpList_store_ratZ rfl (.tmp 4) (.tmp 15) _ (List.replicate 32 0) 0 (.slice none 0 0) List.length_replicate rfl rfl rfl rfl _ (HL.out.get 1 rfl) (rat_old List.length_replicate) ?_; intro w9 b1 b2 b3; replace HL := Lib.hid (HL.out.store 1 rfl b1 b2 b3); clear b1 b2 b3))
    refine bodyPost_ret (results_cell_tmp rfl _ _ _ 71 _ (0, 0) _ rfl (HL.out.get 1 rfl) Tryd.underlying71 rfl (rat_info List.length_replicate)) rfl ?_
    exact ⟨by rw [HQ1.out, HQ2.out]; rfl, HL.out.aft⟩
  by_cases h2 : 1048576 < z
  · have HQ1 := Lib.hid (show stC k z = List.replicate 32 0 from if_neg (by omega))
    have HQ2 := Lib.hid (show stE z = 1 from if_neg (by omega))
    go_wp2_with (first | (refine wpList_boxO rfl 23 (.tmp 0) rfl (.agg (bv k).toArray) rfl (.cells (bv k).toArray 23) (box_key _) ?_; intro w' aa gg zz; replace HL := Lib.hid (HL.out.alloc aa gg.out); clear aa gg zz; try simp only [List.nil_append, List.cons_append, List.set_cons_zero, List.set_cons_succ] at HL) | (refine wpList_allocO rfl 71 rfl (.cells (ratL (List.replicate 32 0) 0 (.slice none 0 0)).toArray 71) alloc_rat ?_; intro w' aa gg zz; replace HL := Lib.hid (HL.out.alloc aa gg.out); clear aa gg zz; try simp only [List.nil_append, List.cons_append, List.set_cons_zero, List.set_cons_succ] at HL) | (refine wpList_buildO (by kernel_rfl) 71 #[] rfl #[] (by kernel_rfl) _ (build_rat0) ?_) | (refine wpList_store_ratZ rfl (.tmp 4) (.tmp 15) _ (List.replicate 32 0) 0 (.slice none 0 0) List.length_replicate rfl rfl rfl rfl _ (HL.out.get 1 rfl) (rat_old List.length_replicate) ?_; intro w9 b1 b2 b3; replace HL := Lib.hid (HL.out.store 1 rfl b1 b2 b3); clear b1 b2 b3))
    refine bodyPost_ret (results_cell_tmp rfl _ _ _ 71 _ (0, 0) _ rfl (HL.out.get 1 rfl) Tryd.underlying71 rfl (rat_info List.length_replicate)) rfl ?_
    exact ⟨by rw [HQ1.out, HQ2.out]; rfl, HL.out.aft⟩
  obtain ⟨x, rfl⟩ : ∃ x : Nat, z = (x : Int) := ⟨z.toNat, by omega⟩
  have HQ1 := Lib.hid (show stC k (x : Int) = drvKey k senderS [beL 4 x] by unfold stC; rw [if_pos ⟨by omega, by omega⟩, Int.toNat_natCast])
  have HQ2 := Lib.hid (show stE (x : Int) = 0 from if_pos ⟨by omega, by omega⟩)
  have HNum := Lib.hid (fun wx : World => num_four wx x (by omega))
  replace HD := Lib.hid (HD.out x)
  rw [show textErr (drvT (sb ⟨#[115, 101, 110, 100, 101, 114]⟩) [beL 4 x]) = 0 from if_pos (by simp [textOk, drvT, sb, cot, beL_length]), show sb ⟨#[115, 101, 110, 100, 101, 114]⟩ = senderS from rfl] at HD
  have HX := Lib.hid (drvKey_length k senderS [beL 4 x])
  generalize drvKey k senderS [beL 4 x] = X at *
  go_wp2_with (first | (refine wpList_boxO rfl 23 (.tmp 0) rfl (.agg (bv k).toArray) rfl (.cells (bv k).toArray 23) (box_key _) ?_; intro w' aa gg zz; replace HL := Lib.hid (HL.out.alloc aa gg.out); clear aa gg zz; try simp only [List.nil_append, List.cons_append, List.set_cons_zero, List.set_cons_succ] at HL) | (refine wpList_allocO rfl 71 rfl (.cells (ratL (List.replicate 32 0) 0 (.slice none 0 0)).toArray 71) alloc_rat ?_; intro wb aa gg zz; replace HL := Lib.hid (HL.out.alloc aa gg.out); clear aa gg zz))
  refine (HNum.out _).mono ?_
  rintro e w3 ⟨a3, c3, rfl, hr3, hb3⟩
  have HR3 := Lib.hid hr3
  replace HL := Lib.hid (HL.out.call hb3)
  clear hr3 hb3 h1 h2
  go_wp2_with (first | (refine wpList_load_rowG (by kernel_rfl) 23 (.tmp 2) rfl _ rfl _ _ _ _ (HL.out.get 0 rfl) Tryd.underlying23 rfl (key_info HKl.out) ?_))
  refine (HD.out _ _ (Aft.trans HL.out.aft (Aft.alloc w3 _)) (RdAll.one _ _ _ _ HR3.out)).mono ?_
  rintro e w4 ⟨rfl, h4⟩
  replace HL := Lib.hid (HL.out.call (Aft.trans (Aft.alloc w3 _) h4))
  clear h4
  go_wp2_with (first | (refine wpList_allocO rfl 23 rfl (.cells key0 23) alloc_key ?_; intro w' aa gg zz; replace HL := Lib.hid (HL.out.alloc aa gg.out); clear aa gg zz; try simp only [List.nil_append, List.cons_append, List.set_cons_zero, List.set_cons_succ] at HL) | (refine wpList_store_keyZ rfl (.tmp 8) (.tmp 32) rfl _ X HX.out rfl rfl _ (HL.out.get 2 rfl) key0_size ?_; intro w' b1 b2 b3; replace HL := Lib.hid (HL.out.store 2 rfl b1 b2 b3); clear b1 b2 b3; try simp only [List.nil_append, List.cons_append, List.set_cons_zero, List.set_cons_succ] at HL) | (refine wpList_load_rowG (by kernel_rfl) 23 (.tmp 8) rfl _ rfl _ _ _ _ (HL.out.get 2 rfl) Tryd.underlying23 rfl (key_info HX.out) ?_) | (refine wpList_buildO (by kernel_rfl) 71 #[(0, .tmp 38)] rfl #[(0, .agg (bv X).toArray)] (by kernel_rfl) _ (build_rat1 HX.out) ?_) | (refine wpList_store_ratZ rfl (.tmp 4) (.tmp 39) _ X 0 (.slice none 0 0) HX.out rfl rfl rfl rfl _ (HL.out.get 1 rfl) (rat_old List.length_replicate) ?_; intro w9 b1 b2 b3; replace HL := Lib.hid (HL.out.store 1 rfl b1 b2 b3); clear b1 b2 b3))
  refine bodyPost_ret (results_cell_tmp rfl _ _ _ 71 _ (0, 0) _ rfl (HL.out.get 1 rfl) Tryd.underlying71 rfl (rat_info HX.out)) rfl ?_
  exact ⟨by rw [HQ1.out, HQ2.out]; rfl, HL.out.aft⟩
end Go.Proofs.YtanodhagpegbfaaDoor
