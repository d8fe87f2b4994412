/- coterielaw02.ShaSums: it answers true. -/
import Derived.Test.YtifehfcgmodmaaaDoorMacKeys
import Derived.Test.YtifehfcgmodmaaaDoorRefSum
namespace Go.Proofs.YtifehfcgmodmaaaDoor
open Go Go.RowKit
set_option maxRecDepth 100000 in
set_option maxHeartbeats 2000000 in
theorem shaSums_any (v : Value) (ps : List (List (BitVec 8))) (w : World) (hK : TabK K0 1 w) (hK2 : TabK K0 0 w) (hr : RdAll w v ps)
    (h1 : ps.length ≤ 1048576) (h3 : ps.flatten.length ≤ 1048576) :
    Calls Tryd.prog 3 #[v] w fun e w' => e = .returned (.bool true) ∧ Below w.heap.size w w' := by
  have HK := Lib.hid hK
  have HK2 := Lib.hid hK2
  have HA := Lib.hid hr
  have HLen := Lib.hid h3
  obtain ⟨aoa, capa, rfl, -⟩ := hr.shape
  clear hK hK2 hr
  have HL := Lib.hid (live2_any w HK.out)
  go_enter Tryd.func3, Tryd.ntmps3
  go_wp2_with fail
  refine HL.out.mono ?_
  rintro e w1 ⟨rfl, hb1⟩
  have HB1 := Lib.hid (show Aft w w1 from hb1)
  clear hb1
  go_wp2_with fail
  refine (few_any _ ps w1 (HA.out.below HB1.out) (by omega)).mono ?_
  rintro e w1' ⟨rfl, rfl⟩
  by_cases hf1 : few ps
  · rw [decide_eq_true hf1]
    go_wp2_with fail
    refine (all_any _ ps _ (HA.out.below HB1.out) (by have := HLen.out; omega)).mono ?_
    rintro e w2 ⟨a2, c2, rfl, ho2, hb2⟩
    have HR2 := Lib.hid (Rd.of_own ho2)
    have HB2 := Lib.hid (show Aft w w2 from Aft.trans HB1.out hb2)
    clear ho2 hb2
    go_wp2_with fail
    have hs := sum_any K0 _ ps w2 (TabK_fr HK.out (Fr.of_below (S := fun _ => False) HB2.out) (fun h => h)) (HA.out.below HB2.out) (by have := HLen.out; omega)
    have HRs := Lib.hid (fun wx (h : Aft w wx) => refSum_any _ ps wx (TabK_fr HK2.out (Fr.of_below (S := fun _ => False) h) (fun h => h)) (HA.out.below h) (by have := HLen.out; omega))
    have HAl := Lib.hid (fun wx (h : Aft w wx) => all_any _ ps wx (HA.out.below h) (by have := HLen.out; omega))
    have HXL := Lib.hid (show (digest K0 ps.flatten).length = 32 from digest_length K0 _)
    generalize digest K0 ps.flatten = X at *
    generalize ps.flatten = d at *
    refine hs.mono ?_
    rintro e w3 ⟨rfl, hb3⟩
    have HB3 := Lib.hid (show Aft w w3 from Aft.trans HB2.out hb3)
    have HR3 := Lib.hid (HR2.out.grow hb3)
    have HS3 := Lib.hid (heap_alloc_new w3 (.cells key0 28))
    clear hb3 hs
    go_wp2_with ((refine wpList_store_keyX rfl (.tmp 5) (.tmp 14) rfl w3.heap.size X HXL.out rfl rfl HS3.out ?_; intro w4 q2 q3; have HK4 := Lib.hid q2.out; have h34 := (show Aft w3 w4 from q3 w3.heap.size w3 (Nat.le_refl _) (Below.alloc (Below.refl _ _) (Nat.le_refl _) _)); have HB4 := Lib.hid (Aft.trans HB3.out h34); have HR4 := Lib.hid (HR3.out.grow h34); clear q2 q3 h34))
    simp only [Act.put]
    refine wp_region_lexF (fun i => ([0, 0, 0, 0, 2, 0, 0, 0, 0, 2, 0, 2] : List Nat).getD i 0) 13 (by kernel_rfl) (by kernel_rfl) ?_; intro wf hwf
    have HWf := Lib.hid (show Aft w4 wf by rw [hwf]; exact (Below.refl _ _).drew)
    clear hwf
    iterate 2 (first | (refine lf_quiet rfl (by go_big_quiet_want; exact quiet_false (by assumption)) (by kernel_rfl) rfl ?_; intro Kx hKx; go_big_quiet_op; go_big_quiet_on))
    refine lf_load_row rfl (by kernel_rfl) 28 (.tmp 5) rfl w3.heap.size rfl _ (bv X).toArray _ _ (Aft.get HWf.out HK4.out) Tryd.underlying28 rfl (by rw [List.size_toArray, bv_length, HXL.out]; kernel_rfl) ?_
    simp only [Act.put, List.setIfInBounds_toArray, List.set_cons_succ, List.set_cons_zero]
    repeat (first | (refine lf_skip (by go_big_quiet_skip; exact wpQuiet_nil trivial) (by kernel_rfl) ?_; simp only [Act.put, List.setIfInBounds_toArray, List.set_cons_succ, List.set_cons_zero]) | (refine lf_quiet rfl (by go_big_quiet_want; exact quiet_false (by assumption)) (by kernel_rfl) rfl ?_; intro Kx hKx; go_big_quiet_op; go_big_quiet_on))
    refine lf_eff rfl (by go_big_quiet_want; exact quiet_false (by assumption)) (by kernel_rfl) ?_; intro wl hl Kx hKx; go_wp2_with fail
    refine (HRs.out wl (Aft.trans HB4.out (Aft.trans HWf.out hl))).mono ?_
    rintro e wm ⟨rfl, hm⟩
    have HM := Lib.hid (show Aft wf wm from Aft.trans hl hm)
    go_wp2_with fail
    refine ⟨hm, ?_⟩
    clear hm hl
    refine lf_bin rfl (by kernel_rfl) .eql 28 28 (.tmp 17) (.tmp 19) rfl _ _ _ rfl rfl (run_eql_key X HXL.out) (guard_key _ _ _ _ _) ?_
    simp only [Act.put, List.setIfInBounds_toArray, List.set_cons_succ, List.set_cons_zero]
    repeat (first | (refine lf_skip (by go_big_quiet_skip; exact wpQuiet_nil trivial) (by kernel_rfl) ?_; simp only [Act.put, List.setIfInBounds_toArray, List.set_cons_succ, List.set_cons_zero]) | (refine lf_quiet rfl (by go_big_quiet_want; exact quiet_false (by assumption)) (by kernel_rfl) rfl ?_; intro Kx hKx; go_big_quiet_op; go_big_quiet_on))
    refine lf_eff rfl (by go_big_quiet_want; exact quiet_false (by assumption)) (by kernel_rfl) ?_; intro wn hn Kx hKx; go_wp2_with fail
    have HN := Lib.hid (show Aft wf wn from Aft.trans HM.out hn)
    refine (HAl.out wn (Aft.trans HB4.out (Aft.trans HWf.out HN.out))).mono ?_
    rintro e wo ⟨ao, co, rfl, ho, hbo⟩
    have HRo := Lib.hid (Rd.of_own ho)
    have HO := Lib.hid (show Aft wf wo from Aft.trans HN.out hbo)
    go_wp2_with fail
    refine ⟨hbo, ?_⟩
    clear hn ho hbo
    repeat (first | (refine lf_skip (by go_big_quiet_skip; exact wpQuiet_nil trivial) (by kernel_rfl) ?_; simp only [Act.put, List.setIfInBounds_toArray, List.set_cons_succ, List.set_cons_zero]) | (refine lf_quiet rfl (by go_big_quiet_want; exact quiet_false (by assumption)) (by kernel_rfl) rfl ?_; intro Kx hKx; go_big_quiet_op; go_big_quiet_on))
    refine lf_eff rfl (by go_big_quiet_want; exact quiet_false (by assumption)) (by kernel_rfl) ?_; intro wp hp Kx hKx; go_wp2_with fail
    have HP := Lib.hid (show Aft wf wp from Aft.trans HO.out hp)
    refine (same_any _ _ d d wp (HRo.out.grow hp) (HR4.out.grow (Aft.trans HWf.out HP.out))).mono ?_
    rintro e wq ⟨rfl, rfl⟩
    go_wp2_with fail
    refine ⟨Aft.refl _, ?_⟩
    clear hp
    repeat (first | (refine lf_skip (by go_big_quiet_skip; exact wpQuiet_nil trivial) (by kernel_rfl) ?_; simp only [Act.put, List.setIfInBounds_toArray, List.set_cons_succ, List.set_cons_zero]) | (refine lf_quiet rfl (by go_big_quiet_want; exact quiet_false (by assumption)) (by kernel_rfl) rfl ?_; intro Kx hKx; go_big_quiet_op; go_big_quiet_on))
    refine lf_done ?_
    intro wr hr
    have HR := Lib.hid (show Aft wf wr from Aft.trans HP.out hr)
    go_wp2_with fail
    go_ret
    exact ⟨rfl, Aft.trans HB4.out (Aft.trans HWf.out HR.out)⟩
  · rw [decide_eq_false hf1]
    go_wp2_with fail
    go_ret
    exact ⟨rfl, HB1.out⟩
end Go.Proofs.YtifehfcgmodmaaaDoor
