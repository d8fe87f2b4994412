/- The law RatchetNext. -/
import Derived.Test.YtanodhagpegbfaaDoorRLive
namespace Go.Proofs.YtanodhagpegbfaaDoor
open Go Go.RowKit
set_option linter.unusedSimpArgs false

set_option maxRecDepth 100000 in
set_option maxHeartbeats 4000000 in
theorem ratchetNext_any (C : List (BitVec 8)) (G : Nat) (v : Value) (zs : List Sk) (w : World) (hK : TabK K0 2 w) (hC : C.length = 32) (hG : G < 18446744073709551616) (hI : Sks w.heap.size w v zs) :
    Calls Tryd.prog 17 #[.agg (ratL C G v).toArray] w fun r w' => r = .returned (.bool true) ∧ Below w.heap.size w w' := by
  obtain ⟨a, cap, rfl⟩ := hI.shape
  have HK := Lib.hid hK
  have HC := Lib.hid hC
  have HLv := Lib.hid (fun (wx : World) (h : Aft w wx) => live15_any wx (TabK_fr HK.out (Fr.of_below (S := fun _ => False) h) (fun h => h)))
  have HN := Lib.hid (fun (hz : zs.length ≤ 1048576) (wx : World) (h : Aft w wx) => rnext_any C G a cap zs wx (TabK_fr HK.out (Fr.of_below (S := fun _ => False) h) (fun h => h)) hC hG hz (hI.aft h))
  have HT := Lib.hid (fun (hz : zs.length ≤ 1048576) (wx : World) (h : Aft w wx) => (rtake_any C G G a cap zs wx (TabK_fr HK.out (Fr.of_below (S := fun _ => False) h) (fun h => h)) hC hG hG hz (hI.aft h)).mono fun _ _ h => h.as)
  have HA := Lib.hid (fun (hz : zs.length ≤ 1048576) (wx : World) (h : Aft w wx) => ahead_any C G G a cap zs wx hC hG hG hz (hI.aft h))
  rw [tkE_self, tkK_self, tkC_self, tkG_self, tkZ_self] at HT
  rw [ahE_self, ahN_self] at HA
  have HX := Lib.hid (rnK_length C G zs)
  have HY := Lib.hid (rnC_length C G zs)
  have HZl := Lib.hid (show (rnZ G zs).length ≤ zs.length by unfold rnZ; split <;> simp)
  generalize rnE G zs = e at *
  generalize rnK C G zs = X at *
  generalize rnC C G zs = Y at *
  generalize rnG G zs = M at *
  generalize rnZ G zs = Z at *
  have HL := Lib.hid (Led.start w)
  clear hK hC hI hG
  go_enter Tryd.func17, Tryd.ntmps17
  go_wp2_with (first | (refine wpList_boxO rfl 71 (.tmp 0) rfl (.agg (ratL C G (.slice a zs.length cap)).toArray) rfl (.cells (ratL C G (.slice a zs.length cap)).toArray 71) (box_rat _) ?_; intro w' aa gg zz; (try replace HO := Lib.hid (HO.out.aft aa)); (try replace HO2 := Lib.hid (HO2.out.aft aa)); replace HL := Lib.hid (HL.out.alloc aa gg.out); clear aa gg zz; try simp only [List.nil_append, List.cons_append, List.set_cons_zero, List.set_cons_succ] at HL))
  refine (HLv.out _ HL.out.aft).mono ?_
  rintro r w2 ⟨rfl, h2⟩
  replace HL := Lib.hid (HL.out.call h2)
  clear h2 HLv
  have hl := rat_l (HL.out.get 0 rfl) HC.out
  by_cases h1 : (1100 : Int) < (zs.length : Nat)
  · go_wp2_with fail
    go_ret
    exact ⟨rfl, HL.out.aft⟩
  have hz : zs.length ≤ 1048576 := by omega
  have HNx := Lib.hid (HN.out hz)
  have HTx := Lib.hid (HT.out hz)
  have HAx := Lib.hid (HA.out hz)
  have HZ := Lib.hid hz
  clear HN HT HA hz
  go_wp2_with (first | (refine wpList_load_rowG (by kernel_rfl) 71 (.tmp 1) rfl _ rfl _ _ _ _ (HL.out.get 0 rfl) Tryd.underlying71 rfl (rat_info HC.out) ?_))
  refine (HNx.out _ HL.out.aft).mono ?_
  rintro r w3 ⟨v, rfl, ho, h3⟩
  obtain ⟨ao, cp, rfl⟩ := ho.shape
  have HO := Lib.hid ho
  replace HL := Lib.hid (HL.out.call h3)
  clear h3 ho hl HNx
  go_wp2_with (first | (refine wpList_allocO rfl 23 rfl (.cells key0 23) alloc_key ?_; intro w' aa gg zz; (try replace HO := Lib.hid (HO.out.aft aa)); (try replace HO2 := Lib.hid (HO2.out.aft aa)); replace HL := Lib.hid (HL.out.alloc aa gg.out); clear aa gg zz; try simp only [List.nil_append, List.cons_append, List.set_cons_zero, List.set_cons_succ] at HL) | (refine wpList_allocO rfl 71 rfl (.cells (ratL (List.replicate 32 0) 0 (.slice none 0 0)).toArray 71) alloc_rat ?_; intro w' aa gg zz; (try replace HO := Lib.hid (HO.out.aft aa)); (try replace HO2 := Lib.hid (HO2.out.aft aa)); replace HL := Lib.hid (HL.out.alloc aa gg.out); clear aa gg zz; try simp only [List.nil_append, List.cons_append, List.set_cons_zero, List.set_cons_succ] at HL) | (refine wpList_store_keyZ rfl (.tmp 4) (.tmp 23) rfl _ X HX.out rfl rfl _ (HL.out.get 1 rfl) key0_size ?_; intro w' b1 b2 b3; (try replace HO := Lib.hid (HO.out.stored (HL.out.get 1 rfl) (by decide) b2.out)); (try replace HO2 := Lib.hid (HO2.out.stored (HL.out.get 1 rfl) (by decide) b2.out)); replace HL := Lib.hid (HL.out.store 1 rfl b1 b2 b3); clear b1 b2 b3; try simp only [List.nil_append, List.cons_append, List.set_cons_zero, List.set_cons_succ] at HL) | (refine wpList_store_ratZ rfl (.tmp 5) (.tmp 24) _ (Y) (M) (.slice ao Z.length cp) HY.out rfl rfl rfl rfl _ (HL.out.get 2 rfl) (rat_old List.length_replicate) ?_; intro w' b1 b2 b3; (try replace HO := Lib.hid (HO.out.stored (HL.out.get 2 rfl) (by decide) b2.out)); (try replace HO2 := Lib.hid (HO2.out.stored (HL.out.get 2 rfl) (by decide) b2.out)); replace HL := Lib.hid (HL.out.store 2 rfl b1 b2 b3); clear b1 b2 b3; try simp only [List.nil_append, List.cons_append, List.set_cons_zero, List.set_cons_succ] at HL; have hn := rat_n (HL.out.get 0 rfl) HC.out) | (refine wpList_load_rowG (by kernel_rfl) 71 (.tmp 1) rfl _ rfl _ _ _ _ (HL.out.get 0 rfl) Tryd.underlying71 rfl (rat_info HC.out) ?_))
  refine (HTx.out _ HL.out.aft).mono ?_
  rintro r w4 ⟨ao2, cp2, rfl, ho, h4⟩
  have HO2 := Lib.hid ho
  replace HO := Lib.hid (HO.out.aft h4)
  replace HL := Lib.hid (HL.out.call h4)
  clear h4 ho HTx hn
  go_wp2_with (first | (refine wpList_allocO rfl 23 rfl (.cells key0 23) alloc_key ?_; intro w' aa gg zz; (try replace HO := Lib.hid (HO.out.aft aa)); (try replace HO2 := Lib.hid (HO2.out.aft aa)); replace HL := Lib.hid (HL.out.alloc aa gg.out); clear aa gg zz; try simp only [List.nil_append, List.cons_append, List.set_cons_zero, List.set_cons_succ] at HL) | (refine wpList_allocO rfl 71 rfl (.cells (ratL (List.replicate 32 0) 0 (.slice none 0 0)).toArray 71) alloc_rat ?_; intro w' aa gg zz; (try replace HO := Lib.hid (HO.out.aft aa)); (try replace HO2 := Lib.hid (HO2.out.aft aa)); replace HL := Lib.hid (HL.out.alloc aa gg.out); clear aa gg zz; try simp only [List.nil_append, List.cons_append, List.set_cons_zero, List.set_cons_succ] at HL) | (refine wpList_store_keyZ rfl (.tmp 7) (.tmp 31) rfl _ X HX.out rfl rfl _ (HL.out.get 3 rfl) key0_size ?_; intro w' b1 b2 b3; (try replace HO := Lib.hid (HO.out.stored (HL.out.get 3 rfl) (by decide) b2.out)); (try replace HO2 := Lib.hid (HO2.out.stored (HL.out.get 3 rfl) (by decide) b2.out)); replace HL := Lib.hid (HL.out.store 3 rfl b1 b2 b3); clear b1 b2 b3; try simp only [List.nil_append, List.cons_append, List.set_cons_zero, List.set_cons_succ] at HL) | (refine wpList_store_ratZ rfl (.tmp 8) (.tmp 32) _ (Y) (M) (.slice ao2 Z.length cp2) HY.out rfl rfl rfl rfl _ (HL.out.get 4 rfl) (rat_old List.length_replicate) ?_; intro w' b1 b2 b3; (try replace HO := Lib.hid (HO.out.stored (HL.out.get 4 rfl) (by decide) b2.out)); (try replace HO2 := Lib.hid (HO2.out.stored (HL.out.get 4 rfl) (by decide) b2.out)); replace HL := Lib.hid (HL.out.store 4 rfl b1 b2 b3); clear b1 b2 b3; try simp only [List.nil_append, List.cons_append, List.set_cons_zero, List.set_cons_succ] at HL; have hn := rat_n (HL.out.get 0 rfl) HC.out) | (refine wpList_load_rowG (by kernel_rfl) 71 (.tmp 1) rfl _ rfl _ _ _ _ (HL.out.get 0 rfl) Tryd.underlying71 rfl (rat_info HC.out) ?_))
  refine (HAx.out _ HL.out.aft).mono ?_
  rintro r w5 ⟨rfl, h5⟩
  replace HO := Lib.hid (HO.out.aft h5)
  replace HO2 := Lib.hid (HO2.out.aft h5)
  replace HL := Lib.hid (HL.out.call h5)
  clear h5 HAx hn
  have HSm := Lib.hid (rsame_any Y Y M M (.slice ao Z.length cp) (.slice ao2 Z.length cp2) Z Z w5 HY.out HY.out HO.out.sks HO2.out.sks (by have := HZl.out; have := HZ.out; omega) (by have := HZl.out; have := HZ.out; omega))
  rw [show decide (Y = Y ∧ M = M ∧ Z = Z) = true by simp] at HSm
  go_wp2_with (first | (refine wpList_load_rowG (by kernel_rfl) 23 (.tmp 4) rfl _ rfl _ _ _ _ (HL.out.get 1 rfl) Tryd.underlying23 rfl (key_info HX.out) ?_) | (refine wpList_load_rowG (by kernel_rfl) 23 (.tmp 7) rfl _ rfl _ _ _ _ (HL.out.get 3 rfl) Tryd.underlying23 rfl (key_info HX.out) ?_) | (refine wpList_binG (by kernel_rfl) .eql 23 23 (.tmp 43) (.tmp 44) rfl (.agg (bv X).toArray) (.agg (bv X).toArray) _ rfl rfl (run_eql_key X HX.out) (guard_key _ _ _ _ _) ?_) | (refine wpList_load_rowG (by kernel_rfl) 71 (.tmp 5) rfl _ rfl _ _ _ _ (HL.out.get 2 rfl) Tryd.underlying71 rfl (rat_info HY.out) ?_) | (refine wpList_load_rowG (by kernel_rfl) 71 (.tmp 8) rfl _ rfl _ _ _ _ (HL.out.get 4 rfl) Tryd.underlying71 rfl (rat_info HY.out) ?_))
  refine HSm.out.mono ?_
  rintro r w6 ⟨rfl, h6⟩
  replace HL := Lib.hid (HL.out.call h6)
  clear h6
  go_wp2_with fail
  go_ret
  exact ⟨by simp, HL.out.aft⟩
end Go.Proofs.YtanodhagpegbfaaDoor
