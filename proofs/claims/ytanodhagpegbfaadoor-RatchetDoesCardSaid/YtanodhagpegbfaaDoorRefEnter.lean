/- coterieref14.Enter. -/
import Derived.Test.YtanodhagpegbfaaDoorEnter
namespace Go.Proofs.YtanodhagpegbfaaDoor
open Go Go.RowKit
theorem refEight (w : World) (x : Nat) (hx : x < 18446744073709551616) :
    Calls Tryd.prog 68 #[.int .i64 8, .int .u64 (x : Int)] w fun e w' => ∃ ao cap, e = .returned (.slice ao 8 cap) ∧ Rd w' (.slice ao 8 cap) (bv (beL 8 x)) ∧ Aft w w' := by
  refine (refBytes_any 8 x w (by decide) hx).mono ?_
  rintro e w' ⟨ao, cap, rfl, ho, hb⟩
  rw [bv_length, beL_length] at *
  exact ⟨ao, cap, rfl, Rd.of_own ho, hb⟩
theorem refSub_any (k : List (BitVec 8)) (s : ByteArray) (vc : Value) (ctx : List (List (BitVec 8))) (w : World) (hK : TabK K0 0 w) (hk : k.length = 32) (hc : RdAll w vc ctx) (hs : s.size ≤ 1048576) (hl : ctx.length ≤ 8)
    (hok : textOk (drvT (sb s) ctx) = true) :
    Calls Tryd.prog 72 #[.agg (bv k).toArray, .string s, vc] w fun r w' => r = .returned (.tuple #[.agg (bv (drvKey k (sb s) ctx)).toArray, .int .i64 0]) ∧ Aft w w' := by
  have h := refDerive_any k s vc ctx w hK hk hc (by omega) (by omega) (fun h => texts_few h (by simp [drvT]; omega))
  unfold DrvSays at h
  rw [show textErr (drvT (sb s) ctx) = 0 from if_pos hok] at h
  exact h
set_option maxRecDepth 100000 in
set_option maxHeartbeats 4000000 in
theorem refEnter_any (j t h : List (BitVec 8)) (n : Nat) (w : World) (hK : TabK K0 0 w) (hj : j.length = 32) (ht : t.length = 32) (hh : h.length = 32) (hn : n < 18446744073709551616) :
    Calls Tryd.prog 40 #[.agg (bv j).toArray, .int .u64 (n : Int), .agg (bv t).toArray, .agg (bv h).toArray] w fun r w' => r = .returned (.tuple #[.agg (epoL (enE j n t h)).toArray, .int .i64 (epChk n)]) ∧ Aft w w' := by
  have HK := Lib.hid hK
  have HJ := Lib.hid hj
  have HT := Lib.hid ht
  have HH := Lib.hid hh
  have HO := Lib.hid (nhE_ok hn hh)
  have HNum := Lib.hid (fun wx : World => refEight wx n hn)
  have HS1 := Lib.hid (show ∀ (wx : World) (vc : Value), Aft w wx → RdAll wx vc [beL 8 n, t, h] → Calls Tryd.prog 72 #[.agg (bv j).toArray, .string ⟨#[101, 112, 111, 99, 104]⟩, vc] wx fun r w' => r = .returned (.tuple #[.agg (bv (enK j n t h)).toArray, .int .i64 0]) ∧ Aft wx w' from fun wx vc ha hr => refSub_any j ⟨#[101, 112, 111, 99, 104]⟩ vc [beL 8 n, t, h] wx (TabK_fr HK.out (Fr.of_below (S := fun _ => False) ha) (fun h => h)) HJ.out hr (by decide) (by simp) (epoch_ok HT.out HH.out))
  have HXl := Lib.hid (show (enK j n t h).length = 32 from drvKey_length _ _ _)
  have HD1 := Lib.hid (show ∀ (wx : World), Aft w wx → Calls Tryd.prog 72 #[.agg (bv (enK j n t h)).toArray, .string ⟨#[105, 110, 105, 116]⟩, .slice none 0 0] wx fun r w' => r = .returned (.tuple #[.agg (bv (drvKey (enK j n t h) initS [])).toArray, .int .i64 0]) ∧ Aft wx w' from fun wx ha => refSub_any (enK j n t h) ⟨#[105, 110, 105, 116]⟩ (.slice none 0 0) [] wx (TabK_fr HK.out (Fr.of_below (S := fun _ => False) ha) (fun h => h)) HXl.out (RdAll.nil _) (by decide) (by simp) (by decide))
  have HA1 := Lib.hid (drvKey_length (enK j n t h) initS [])
  have HD2 := Lib.hid (show ∀ (wx : World), Aft w wx → Calls Tryd.prog 72 #[.agg (bv (enK j n t h)).toArray, .string ⟨#[97, 112, 112]⟩, .slice none 0 0] wx fun r w' => r = .returned (.tuple #[.agg (bv (drvKey (enK j n t h) appS [])).toArray, .int .i64 0]) ∧ Aft wx w' from fun wx ha => refSub_any (enK j n t h) ⟨#[97, 112, 112]⟩ (.slice none 0 0) [] wx (TabK_fr HK.out (Fr.of_below (S := fun _ => False) ha) (fun h => h)) HXl.out (RdAll.nil _) (by decide) (by simp) (by decide))
  have HA2 := Lib.hid (drvKey_length (enK j n t h) appS [])
  have HD3 := Lib.hid (show ∀ (wx : World), Aft w wx → Calls Tryd.prog 72 #[.agg (bv (enK j n t h)).toArray, .string ⟨#[99, 111, 110, 102, 105, 114, 109]⟩, .slice none 0 0] wx fun r w' => r = .returned (.tuple #[.agg (bv (drvKey (enK j n t h) confirmS [])).toArray, .int .i64 0]) ∧ Aft wx w' from fun wx ha => refSub_any (enK j n t h) ⟨#[99, 111, 110, 102, 105, 114, 109]⟩ (.slice none 0 0) [] wx (TabK_fr HK.out (Fr.of_below (S := fun _ => False) ha) (fun h => h)) HXl.out (RdAll.nil _) (by decide) (by simp) (by decide))
  have HA3 := Lib.hid (drvKey_length (enK j n t h) confirmS [])
  have HD4 := Lib.hid (show ∀ (wx : World), Aft w wx → Calls Tryd.prog 72 #[.agg (bv (enK j n t h)).toArray, .string ⟨#[109, 101, 109, 98, 101, 114]⟩, .slice none 0 0] wx fun r w' => r = .returned (.tuple #[.agg (bv (drvKey (enK j n t h) memberS [])).toArray, .int .i64 0]) ∧ Aft wx w' from fun wx ha => refSub_any (enK j n t h) ⟨#[109, 101, 109, 98, 101, 114]⟩ (.slice none 0 0) [] wx (TabK_fr HK.out (Fr.of_below (S := fun _ => False) ha) (fun h => h)) HXl.out (RdAll.nil _) (by decide) (by simp) (by decide))
  have HA4 := Lib.hid (drvKey_length (enK j n t h) memberS [])
  have HQ := Lib.hid (show n ≤ 1099511627776 → enE j n t h = ⟨n, drvKey (enK j n t h) initS [], drvKey (enK j n t h) appS [], drvKey (enK j n t h) confirmS [], drvKey (enK j n t h) memberS [], h⟩ from fun hq => if_pos hq)
  have HQz := Lib.hid (show ¬ n ≤ 1099511627776 → enE j n t h = zE from fun hq => if_neg hq)
  generalize enE j n t h = E at *
  generalize drvKey (enK j n t h) initS [] = A1 at *
  generalize drvKey (enK j n t h) appS [] = A2 at *
  generalize drvKey (enK j n t h) confirmS [] = A3 at *
  generalize drvKey (enK j n t h) memberS [] = A4 at *
  generalize enK j n t h = X at *
  have HO1 := Lib.hid (show Epo.Ok { nhE n h with I := A1 } from ⟨HO.out.N, HA1.out, HO.out.A, HO.out.C, HO.out.M, HO.out.H⟩)
  have HO2 := Lib.hid (show Epo.Ok { nhE n h with I := A1, A := A2 } from ⟨HO.out.N, HA1.out, HA2.out, HO.out.C, HO.out.M, HO.out.H⟩)
  have HO3 := Lib.hid (show Epo.Ok { nhE n h with I := A1, A := A2, C := A3 } from ⟨HO.out.N, HA1.out, HA2.out, HA3.out, HO.out.M, HO.out.H⟩)
  have HO4 := Lib.hid (show Epo.Ok { nhE n h with I := A1, A := A2, C := A3, M := A4 } from ⟨HO.out.N, HA1.out, HA2.out, HA3.out, HA4.out, HO.out.H⟩)
  have HL := Lib.hid (Led.start w)
  clear hK hj ht hh hn
  go_enter Tryd.func40, Tryd.ntmps40
  by_cases hq : n ≤ 1099511627776
  · have hq1 : ¬ (1099511627776 : Int) < (n : Int) := by omega
    have HQ2 := Lib.hid (show epChk n = 0 from if_pos hq)
    have HQ1 := Lib.hid (HQ.out hq)
    clear hq
    have hal := fun (wx : World) (g n : Nat) => run_sliceAt_keyN wx g n
    go_wp2_with (first | (refine wpList_boxO rfl 23 (.tmp 0) rfl (.agg (bv j).toArray) rfl (.cells (bv j).toArray 23) (box_key _) ?_; intro wa aa gg zz; replace HL := Lib.hid (HL.out.alloc aa gg.out); clear aa gg zz) | (refine wpList_boxO rfl 23 (.tmp 2) rfl (.agg (bv t).toArray) rfl (.cells (bv t).toArray 23) (box_key _) ?_; intro wb aa gg zz; replace HL := Lib.hid (HL.out.alloc aa gg.out); clear aa gg zz) | (refine wpList_boxO rfl 23 (.tmp 3) rfl (.agg (bv h).toArray) rfl (.cells (bv h).toArray 23) (box_key _) ?_; intro wc aa gg zz; replace HL := Lib.hid (HL.out.alloc aa gg.out); clear aa gg zz) | (refine wpList_allocO rfl 55 rfl (.cells (epoL zE).toArray 55) alloc_epoch ?_; intro w' aa gg zz; replace HL := Lib.hid (HL.out.alloc aa gg.out); clear aa gg zz))
    refine wp_region_lexF (fun i => ([0, 0, 2, 0, 0, 1, 2, 0, 0, 0, 1, 3] : List Nat).getD i 0) 12 (by kernel_rfl) (by kernel_rfl) ?_; intro wr hwr
    replace HL := Lib.hid (HL.out.call (show Aft _ wr by rw [hwr]; exact (Below.refl _ _).drew))
    clear hwr
    have HLr := HL
    refine lf_load_key rfl (by kernel_rfl) (.tmp 4) rfl _ 0 rfl j (HL.out.key 0 rfl HJ.out) HJ.out ?_
    simp only [Act.put, List.setIfInBounds_toArray, List.set_cons_succ, List.set_cons_zero]
    repeat (first | (refine lf_skip (by go_big_quiet_skip; exact wpQuiet_nil trivial) (by kernel_rfl) ?_; simp only [Act.put, List.setIfInBounds_toArray, List.set_cons_succ, List.set_cons_zero]) | (refine lf_quiet rfl (by go_big_quiet_want; exact quiet_false (by assumption)) (by kernel_rfl) rfl ?_; intro Kx hKx; go_big_quiet_op; go_big_quiet_on))
    refine lf_eff rfl (by go_big_quiet_want; exact quiet_false (by assumption)) (by kernel_rfl) ?_
    intro wn hn Kx hKx
    replace HL := Lib.hid (HL.out.call hn)
    go_wp2_with fail
    refine (HNum.out _).mono ?_
    rintro e w3 ⟨a3, c3, rfl, hr3, hb3⟩
    go_wp2_with fail
    refine ⟨hb3, ?_⟩
    have HR3 := Lib.hid hr3
    have HRn := Lib.hid (Aft.trans hn hb3)
    replace HL := Lib.hid (HL.out.call hb3)
    clear hr3 hb3 hn
    repeat (first | (refine lf_skip (by go_big_quiet_skip; exact wpQuiet_nil trivial) (by kernel_rfl) ?_; simp only [Act.put, List.setIfInBounds_toArray, List.set_cons_succ, List.set_cons_zero]) | (refine lf_quiet rfl (by go_big_quiet_want; exact quiet_false (by assumption)) (by kernel_rfl) rfl ?_; intro Kx hKx; go_big_quiet_op; go_big_quiet_on))
    refine lf_fresh (.cells #[.slice a3 8 c3, .slice (some ⟨wa.heap.size, 0, none⟩) 32 32, .slice (some ⟨wb.heap.size, 0, none⟩) 32 32] 24) (fun g => .slice (some ⟨g, 0, none⟩) 3 3) rfl (by kernel_rfl) (fun w1 => by kernel_rfl) ?_
    intro wf gf ha1 ha2 ha3
    simp only [Act.put, List.setIfInBounds_toArray, List.set_cons_succ, List.set_cons_zero]
    replace HL := Lib.hid (HL.out.call ha1)
    have HAf := Lib.hid ha1
    have HB := Lib.hid ha3
    clear ha1 ha2 ha3
    refine lf_eff rfl (by go_big_quiet_want; exact quiet_false (by assumption)) (by kernel_rfl) ?_
    intro wg hc Kx hKx
    replace HL := Lib.hid (HL.out.call hc)
    go_wp2_with fail
    refine (HS1.out wg _ HL.out.aft (RdAll.three (Aft.get hc HB.out) (HR3.out.grow (Aft.trans HAf.out hc)) (HL.out.key 1 rfl HT.out) (HL.out.key 2 rfl HH.out))).mono ?_
    rintro r wd ⟨rfl, hd⟩
    go_wp2_with fail
    refine ⟨hd, ?_⟩
    replace HL := Lib.hid (HL.out.call hd)
    have HRd := Lib.hid (Aft.trans HRn.out (Aft.trans HAf.out (Aft.trans hc hd)))
    clear hd hc
    repeat (first | (refine lf_skip (by go_big_quiet_skip; exact wpQuiet_nil trivial) (by kernel_rfl) ?_; simp only [Act.put, List.setIfInBounds_toArray, List.set_cons_succ, List.set_cons_zero]) | (refine lf_quiet rfl (by go_big_quiet_want; exact quiet_false (by assumption)) (by kernel_rfl) rfl ?_; intro Kx hKx; go_big_quiet_op; go_big_quiet_on))
    refine lf_fresh (.cells key0 23) (fun g => .pointer (some ⟨g, 0, none⟩)) rfl (by kernel_rfl) (fun w1 => by kernel_rfl) ?_
    intro wk gk hk1 hk2 hk3
    simp only [Act.put, List.setIfInBounds_toArray, List.set_cons_succ, List.set_cons_zero]
    refine lf_store rfl (by kernel_rfl) 23 (.tmp 10) (.tmp 24) rfl gk (bv X).toArray rfl rfl _ key0 (Aft.trans HRd.out hk1) hk2 hk3 (key_info HXl.out) (by rw [key_sz HXl.out]; rfl) (all_one (bv_one X)) ?_
    intro wz z1 z2 z3
    simp only [Act.put]
    replace HL := Lib.hid (HLr.out.fresh z2 hk2 z1.out)
    clear HLr hk1 hk2 hk3 z1 z2 z3
    refine lf_done ?_
    intro wt ht
    replace HL := Lib.hid (HL.out.call ht)
    clear ht
    go_wp2_with (first | (refine wpList_load_rowG (by kernel_rfl) 23 (.tmp 7) rfl _ rfl _ _ _ _ (HL.out.get 2 rfl) Tryd.underlying23 rfl (key_info HH.out) ?_) | (refine wpList_buildO (by kernel_rfl) 55 #[(0, .tmp 26), (5, .tmp 27)] rfl #[(0, .int .u64 (n : Int)), (5, .agg (bv h).toArray)] (by kernel_rfl) _ (build_epoch2 HH.out n) ?_) | (refine wpList_allocO rfl 55 rfl (.cells (epoL zE).toArray 55) alloc_epoch ?_; intro w' aa gg zz; replace HL := Lib.hid (HL.out.alloc aa gg.out); clear aa gg zz) | (refine wpList_store_epoZ rfl (.tmp 12) (.tmp 28) rfl _ _ HO.out rfl rfl _ (HL.out.get 5 rfl) (zE_ok) ?_; intro w' b1 b2 b3; replace HL := Lib.hid (HL.out.store 5 rfl b1 b2 b3); clear b1 b2 b3) | (refine wpList_load_rowG (by kernel_rfl) 23 (.tmp 10) rfl _ rfl _ _ _ _ (HL.out.get 4 rfl) Tryd.underlying23 rfl (key_info HXl.out) ?_))
    refine (HD1.out _ HL.out.aft).mono ?_
    rintro r x1 ⟨rfl, hx⟩
    replace HL := Lib.hid (HL.out.call hx)
    clear hx
    go_wp2_with (first | (refine wpList_store_epoI rfl (.tmp 34) (.tmp 32) rfl _ (nhE n h) (HO.out) A1 HA1.out rfl (HL.out.get 5 rfl) rfl ?_; intro w' b1 b2 b3; replace HL := Lib.hid (HL.out.store 5 rfl b1 b2 b3); clear b1 b2 b3) | (refine wpList_load_rowG (by kernel_rfl) 23 (.tmp 10) rfl _ rfl _ _ _ _ (HL.out.get 4 rfl) Tryd.underlying23 rfl (key_info HXl.out) ?_))
    refine (HD2.out _ HL.out.aft).mono ?_
    rintro r x2 ⟨rfl, hx⟩
    replace HL := Lib.hid (HL.out.call hx)
    clear hx
    go_wp2_with (first | (refine wpList_store_epoA rfl (.tmp 40) (.tmp 38) rfl _ ({ nhE n h with I := A1 }) (HO1.out) A2 HA2.out rfl (HL.out.get 5 rfl) rfl ?_; intro w' b1 b2 b3; replace HL := Lib.hid (HL.out.store 5 rfl b1 b2 b3); clear b1 b2 b3) | (refine wpList_load_rowG (by kernel_rfl) 23 (.tmp 10) rfl _ rfl _ _ _ _ (HL.out.get 4 rfl) Tryd.underlying23 rfl (key_info HXl.out) ?_))
    refine (HD3.out _ HL.out.aft).mono ?_
    rintro r x3 ⟨rfl, hx⟩
    replace HL := Lib.hid (HL.out.call hx)
    clear hx
    go_wp2_with (first | (refine wpList_store_epoC rfl (.tmp 46) (.tmp 44) rfl _ ({ nhE n h with I := A1, A := A2 }) (HO2.out) A3 HA3.out rfl (HL.out.get 5 rfl) rfl ?_; intro w' b1 b2 b3; replace HL := Lib.hid (HL.out.store 5 rfl b1 b2 b3); clear b1 b2 b3) | (refine wpList_load_rowG (by kernel_rfl) 23 (.tmp 10) rfl _ rfl _ _ _ _ (HL.out.get 4 rfl) Tryd.underlying23 rfl (key_info HXl.out) ?_))
    refine (HD4.out _ HL.out.aft).mono ?_
    rintro r x4 ⟨rfl, hx⟩
    replace HL := Lib.hid (HL.out.call hx)
    clear hx
    go_wp2_with (first | (refine wpList_store_epoM rfl (.tmp 52) (.tmp 50) rfl _ ({ nhE n h with I := A1, A := A2, C := A3 }) (HO3.out) A4 HA4.out rfl (HL.out.get 5 rfl) rfl ?_; intro w' b1 b2 b3; replace HL := Lib.hid (HL.out.store 5 rfl b1 b2 b3); clear b1 b2 b3) | (refine wpList_load_rowG (by kernel_rfl) 55 (.tmp 12) rfl _ rfl _ _ _ _ (HL.out.get 5 rfl) Tryd.underlying55 rfl (epo_info HO4.out) ?_) | (refine wpList_store_epoZ rfl (.tmp 8) (.tmp 53) rfl _ _ HO4.out rfl rfl _ (HL.out.get 3 rfl) (zE_ok) ?_; intro w' b1 b2 b3; replace HL := Lib.hid (HL.out.store 3 rfl b1 b2 b3); clear b1 b2 b3))
    refine bodyPost_ret (results_cell_tmp rfl _ _ _ 55 _ (0, 0) _ rfl (HL.out.get 3 rfl) Tryd.underlying55 rfl (epo_info HO4.out)) rfl ?_
    exact ⟨by rw [HQ1.out, HQ2.out]; rfl, HL.out.aft⟩
  · have hq1 : (1099511627776 : Int) < (n : Int) := by omega
    have HQ2 := Lib.hid (show epChk n = 1 from if_neg hq)
    have HQ1 := Lib.hid (HQz.out hq)
    clear hq
    go_wp2_with (first | (refine wpList_boxO rfl 23 (.tmp 0) rfl (.agg (bv j).toArray) rfl (.cells (bv j).toArray 23) (box_key _) ?_; intro wa aa gg zz; replace HL := Lib.hid (HL.out.alloc aa gg.out); clear aa gg zz) | (refine wpList_boxO rfl 23 (.tmp 2) rfl (.agg (bv t).toArray) rfl (.cells (bv t).toArray 23) (box_key _) ?_; intro wb aa gg zz; replace HL := Lib.hid (HL.out.alloc aa gg.out); clear aa gg zz) | (refine wpList_boxO rfl 23 (.tmp 3) rfl (.agg (bv h).toArray) rfl (.cells (bv h).toArray 23) (box_key _) ?_; intro wc aa gg zz; replace HL := Lib.hid (HL.out.alloc aa gg.out); clear aa gg zz) | (refine wpList_allocO rfl 55 rfl (.cells (epoL zE).toArray 55) alloc_epoch ?_; intro w' aa gg zz; replace HL := Lib.hid (HL.out.alloc aa gg.out); clear aa gg zz) | (refine wpList_buildO (by kernel_rfl) 55 #[] rfl #[] (by kernel_rfl) _ (build_epoch0) ?_) | (refine wpList_store_epoZ rfl (.tmp 8) (.tmp 15) rfl _ _ zE_ok rfl rfl _ (HL.out.get 3 rfl) (zE_ok) ?_; intro w' b1 b2 b3; replace HL := Lib.hid (HL.out.store 3 rfl b1 b2 b3); clear b1 b2 b3))
    refine bodyPost_ret (results_cell_tmp rfl _ _ _ 55 _ (0, 0) _ rfl (HL.out.get 3 rfl) Tryd.underlying55 rfl (epo_info zE_ok)) rfl ?_
    exact ⟨by rw [HQ1.out, HQ2.out]; rfl, HL.out.aft⟩
end Go.Proofs.YtanodhagpegbfaaDoor
