/- coterielaw02.ShaSteps: it answers true. -/
import Derived.Test.YtifehfcgmodmaaaDoorRefDone
import Derived.Test.YtifehfcgmodmaaaDoorRefWrite
import Derived.Test.YtifehfcgmodmaaaDoorMacKeys
namespace Go.Proofs.YtifehfcgmodmaaaDoor
open Go Go.RowKit
theorem shaArr_info (s : St) (N : Nat) (vr : Value) : (Tryd.prog.info? 37).map (·.size) = some (shaArr s N vr).size := by rw [show (shaArr s N vr).size = 10 from rfl]; kernel_rfl
theorem shaArr_size (s : St) (N : Nat) (vr : Value) : (shaArr s N vr).size = 10 := rfl
theorem shaArr_one (s : St) (N : Nat) (ao : Option Addr) (n c : Nat) : (shaArr s N (.slice ao n c)).all (·.oneCell') = true := by kernel_rfl
/-- What Done hands back. -/
def doneKey (s : St) (N : Nat) (rest : List (BitVec 8)) : List (BitVec 8) := if chk s N (bv rest).length = 0 then finKey K0 s N rest else List.replicate 32 0
theorem doneKey_length (s : St) (N : Nat) (rest : List (BitVec 8)) : (doneKey s N rest).length = 32 := by
  unfold doneKey
  split
  · rw [finKey_abs]; exact keyBytes_length _
  · exact List.length_replicate
theorem key0_bv : (bv (List.replicate 32 0)).toArray = key0 := by rw [← bv_zeros]; rfl
theorem doneKey_arr (s : St) (N : Nat) (rest : List (BitVec 8)) : (if chk s N (bv rest).length = 0 then (bv (finKey K0 s N rest)).toArray else key0) = (bv (doneKey s N rest)).toArray := by
  unfold doneKey
  split
  · rfl
  · exact key0_bv.symm
theorem done2_any (s : St) (N : Nat) (vr : Value) (rest : List (BitVec 8)) (w : World) (hK : TabK K0 1 w) (hrd : Rd w vr (bv rest)) (hN : N < 18446744073709551616) (hlen : rest.length ≤ 1099511627776) :
    Calls Tryd.prog 35 #[.agg (shaArr s N vr)] w fun e w' => (e = .returned (.tuple #[.agg (bv (doneKey s N rest)).toArray, .int .i64 (chk s N (bv rest).length)])) ∧ Below w.heap.size w w' := by
  have h := done_any K0 s N vr rest w hK hrd hN hlen
  rw [doneKey_arr] at h
  exact h
theorem refDone2_any (s : St) (N : Nat) (vr : Value) (rest : List (BitVec 8)) (w : World) (hK : TabK K0 0 w) (hrd : Rd w vr (bv rest)) (hN : N < 18446744073709551616) (hlen : rest.length ≤ 1099511627776) :
    Calls Tryd.prog 36 #[.agg (shaArr s N vr)] w fun e w' => (e = .returned (.tuple #[.agg (bv (doneKey s N rest)).toArray, .int .i64 (chk s N (bv rest).length)])) ∧ Below w.heap.size w w' := by
  have h := refDone_any s N vr rest w hK hrd hN hlen
  rw [doneKey_arr] at h
  exact h
/-- Two sums, in two blocks. -/
def boxW (s : St) (N : Nat) (vr : Value) (o : St) (M : Nat) (vo : Value) (w : World) : World := (w.alloc (.cells (shaArr s N vr) 37)).alloc (.cells (shaArr o M vo) 37)
theorem boxW_aft (s : St) (N : Nat) (vr : Value) (o : St) (M : Nat) (vo : Value) (w : World) : Aft w (boxW s N vr o M vo w) := Aft.trans (Aft.alloc w _) (Aft.alloc _ _)
theorem boxW_s (s : St) (N : Nat) (vr : Value) (o : St) (M : Nat) (vo : Value) (w : World) : (boxW s N vr o M vo w).heap[w.heap.size]? = some (.cells (shaArr s N vr) 37 (0, 0)) := heap_alloc2_old w _ _
theorem boxW_o (s : St) (N : Nat) (vr : Value) (o : St) (M : Nat) (vo : Value) (w : World) : (boxW s N vr o M vo w).heap[w.heap.size + 1]? = some (.cells (shaArr o M vo) 37 (0, 0)) := heap_alloc2_new w _ _
set_option maxRecDepth 100000 in
set_option maxHeartbeats 4000000 in
theorem shaSteps_any (s : St) (N : Nat) (vr : Value) (rest : List (BitVec 8)) (o : St) (M : Nat) (vo : Value) (rest2 : List (BitVec 8)) (vp : Value) (ps : List (List (BitVec 8))) (w : World) (hK : TabK K0 1 w) (hK2 : TabK K0 0 w)
    (hrd : Rd w vr (bv rest)) (hro : Rd w vo (bv rest2)) (hrp : RdAll w vp ps) (hN : N < 18446744073709551616) (h1 : ps.length ≤ 1048576) (h3 : ps.flatten.length ≤ 1048576) :
    Calls Tryd.prog 8 #[.agg #[.int .u32 (wn s.a), .int .u32 (wn s.b), .int .u32 (wn s.c), .int .u32 (wn s.d), .int .u32 (wn s.e), .int .u32 (wn s.f), .int .u32 (wn s.g), .int .u32 (wn s.h), .int .u64 (N : Int), vr],
      .agg #[.int .u32 (wn o.a), .int .u32 (wn o.b), .int .u32 (wn o.c), .int .u32 (wn o.d), .int .u32 (wn o.e), .int .u32 (wn o.f), .int .u32 (wn o.g), .int .u32 (wn o.h), .int .u64 (M : Int), vo], vp] w
      fun e w' => e = .returned (.bool true) ∧ Below w.heap.size w w' := by
  have HK := Lib.hid hK
  have HK2 := Lib.hid hK2
  have HR := Lib.hid hrd
  have HRo := Lib.hid hro
  have HP := Lib.hid hrp
  have HL1 := Lib.hid h1
  have HL3 := Lib.hid h3
  obtain ⟨ao, cap, rfl, -, -, -, -⟩ := hrd
  obtain ⟨aq, caq, rfl, -, -, -, -⟩ := hro
  obtain ⟨aop, capp, rfl, -⟩ := hrp.shape
  clear hK hK2 hrp h1 h3
  go_enter Tryd.func8, Tryd.ntmps8
  have HL := Lib.hid (live2_any (boxW s N (.slice ao (bv rest).length cap) o M (.slice aq (bv rest2).length caq) w) (TabK_fr HK.out (Fr.of_below (S := fun _ => False) (boxW_aft _ _ _ _ _ _ w)) (fun h => h)))
  go_wp2_with fail
  refine HL.out.mono ?_
  rintro e w1 ⟨rfl, hb1⟩
  have HB1 := Lib.hid (show Aft w w1 from Aft.trans (boxW_aft _ _ _ _ _ _ w) hb1)
  have HS1 := Lib.hid (Aft.get hb1 (boxW_s s N (.slice ao (bv rest).length cap) o M (.slice aq (bv rest2).length caq) w))
  have HO1 := Lib.hid (Aft.get hb1 (boxW_o s N (.slice ao (bv rest).length cap) o M (.slice aq (bv rest2).length caq) w))
  clear hb1
  go_wp2_with fail
  refine (few_any _ ps w1 (HP.out.below HB1.out) (by have := HL1.out; omega)).mono ?_
  rintro e w1' ⟨rfl, rfl⟩
  obtain ⟨-, -, -, -, -, -, -, -, -, g9⟩ := sha_all (sha_row HS1.out)
  obtain ⟨-, -, -, -, -, -, -, -, -, k9⟩ := sha_all (sha_row HO1.out)
  by_cases hf : few ps
  · rw [decide_eq_true hf]
    by_cases hl1 : (bv rest).length > 200
    · have hl1' : (200 : Int) < ((bv rest).length : Nat) := by omega
      go_wp2_with fail
      go_ret
      exact ⟨rfl, HB1.out⟩
    · have hl1' : ¬ (200 : Int) < ((bv rest).length : Nat) := by omega
      by_cases hl2 : (bv rest2).length > 200
      · have hl2' : (200 : Int) < ((bv rest2).length : Nat) := by omega
        go_wp2_with fail
        go_ret
        exact ⟨rfl, HB1.out⟩
      · have hl2' : ¬ (200 : Int) < ((bv rest2).length : Nat) := by omega
        have HLr := Lib.hid (show rest.length ≤ 200 by rw [bv_length] at hl1; omega)
        have HLo := Lib.hid (show rest2.length ≤ 200 by rw [bv_length] at hl2; omega)
        clear hl1 hl2
        go_wp2_with fail
        refine (copy_any _ rest _ (HR.out.grow HB1.out) (by have := HLr.out; omega)).mono ?_
        rintro e w2 ⟨a2, c2, rfl, ho2, hb2⟩
        have HB2 := Lib.hid (Aft.trans HB1.out hb2)
        have HC2 := Lib.hid (Rd.of_own ho2)
        have HS2 := Lib.hid (Aft.get (show Aft _ w2 from hb2) HS1.out)
        have HO2 := Lib.hid (Aft.get (show Aft _ w2 from hb2) HO1.out)
        clear ho2 hb2 g9 k9 hl1' hl2'
        have HWr := Lib.hid (fun (wx : World) (h : Aft w wx) => write_any K0 s N _ _ rest ps wx (TabK_fr HK.out (Fr.of_below (S := fun _ => False) h) (fun h => h)) (HR.out.grow h) (HP.out.below h) hN (by have := HLr.out; omega) (by have := HL3.out; omega))
        have HRw := Lib.hid (fun (wx : World) (h : Aft w wx) => refWrite_any s N _ _ rest ps wx (TabK_fr HK2.out (Fr.of_below (S := fun _ => False) h) (fun h => h)) (HR.out.grow h) (HP.out.below h) hN (by have := HLr.out; omega) (by have := HL3.out; omega))
        have HDn := Lib.hid (fun (wx : World) (h : Aft w wx) => done2_any s N _ rest wx (TabK_fr HK.out (Fr.of_below (S := fun _ => False) h) (fun h => h)) (HR.out.grow h) hN (by have := HLr.out; omega))
        have HRdn := Lib.hid (fun (wx : World) (h : Aft w wx) => refDone2_any s N _ rest wx (TabK_fr HK2.out (Fr.of_below (S := fun _ => False) h) (fun h => h)) (HR.out.grow h) hN (by have := HLr.out; omega))
        have HCk := Lib.hid (fun (wx : World) => check_any s N (bv rest).length cap ao wx hN (by rw [bv_length]; have := HLr.out; omega))
        have HRck := Lib.hid (fun (wx : World) => refCheck_any s N (bv rest).length cap ao wx hN (by rw [bv_length]; have := HLr.out; omega))
        have HXL := Lib.hid (doneKey_length s N rest)
        generalize doneKey s N rest = X at *
        generalize chk s N (bv rest).length = C at *
        go_wp2_with ((refine wpList_load_row rfl 37 (.tmp 3) rfl w.heap.size rfl 37 (shaArr s N (.slice ao (bv rest).length cap)) (0, 0) _ HS2.out Tryd.underlying37 rfl (shaArr_info _ _ _) ?_))
        refine (HWr.out w2 HB2.out).mono ?_
        rintro e w3 ⟨st, N1, rs, er, va, hw, rfl, ho3, hb3⟩
        obtain ⟨a3, c3, rfl⟩ := own_shape ho3
        have HW := Lib.hid hw
        have HOa := Lib.hid ho3
        have HB3 := Lib.hid (show Aft w w3 from Aft.trans HB2.out hb3)
        have HA23 := Lib.hid (show Aft w2 w3 from hb3)
        have HZ3 := Lib.hid (heap_alloc_new w3 (.cells zero10 37))
        clear hw ho3 hb3
        go_wp2_with (first
          | (refine wpList_store_rowX rfl 37 (.tmp 9) (.tmp 43) rfl w3.heap.size (shaArr st N1 (.slice a3 (bv rs).length c3)) rfl rfl 37 zero10 HZ3.out (shaArr_info _ _ _) rfl (shaArr_one _ _ _ _ _) ?_; intro w4 q2 q3; have h34 := (show Aft w3 w4 from q3 w3.heap.size w3 (Nat.le_refl _) (Aft.alloc _ _)); have H34 := Lib.hid h34; have HB4 := Lib.hid (Aft.trans HB3.out h34); have HA4 := Lib.hid q2.out; have HS4 := Lib.hid (Aft.get h34 (Aft.get HA23.out HS2.out)); clear q2 q3 h34)
          | (refine wpList_load_row rfl 37 (.tmp 3) rfl w.heap.size rfl 37 (shaArr s N (.slice ao (bv rest).length cap)) (0, 0) _ HS4.out Tryd.underlying37 rfl (shaArr_info _ _ _) ?_))
        refine (HRw.out w4 HB4.out).mono ?_
        rintro e w5 ⟨st', N1', rs', er', vb, hw', rfl, hrb, hb5⟩
        rw [← HW.out] at hw'
        simp only [Prod.mk.injEq] at hw'
        obtain ⟨rfl, rfl, rfl, rfl⟩ := hw'
        have HRb := Lib.hid hrb
        obtain ⟨a5, c5, rfl, -, -, -, -⟩ := hrb
        have HB5 := Lib.hid (show Aft w w5 from Aft.trans HB4.out hb5)
        have H45 := Lib.hid (show Aft w4 w5 from hb5)
        have HZ5 := Lib.hid (heap_alloc_new w5 (.cells zero10 37))
        clear hb5
        go_wp2_with (first
          | (refine wpList_store_rowX rfl 37 (.tmp 11) (.tmp 49) rfl w5.heap.size (shaArr st' N1' (.slice a5 (bv rs').length c5)) rfl rfl 37 zero10 HZ5.out (shaArr_info _ _ _) rfl (shaArr_one _ _ _ _ _) ?_; intro w6 q2 q3; have h56 := (show Aft w5 w6 from q3 w5.heap.size w5 (Nat.le_refl _) (Aft.alloc _ _)); have H46 := Lib.hid (Aft.trans H45.out h56); have H56 := Lib.hid h56; have HB6 := Lib.hid (Aft.trans HB5.out h56); have HE6 := Lib.hid q2.out; have HS6 := Lib.hid (Aft.get (Aft.trans H45.out h56) HS4.out); clear q2 q3 h56)
          | (refine wpList_load_row rfl 37 (.tmp 3) rfl w.heap.size rfl 37 (shaArr s N (.slice ao (bv rest).length cap)) (0, 0) _ HS6.out Tryd.underlying37 rfl (shaArr_info _ _ _) ?_))
        refine (HDn.out w6 HB6.out).mono ?_
        rintro e w7 ⟨rfl, hb7⟩
        have HB7 := Lib.hid (show Aft w w7 from Aft.trans HB6.out hb7)
        have H67 := Lib.hid (show Aft w6 w7 from hb7)
        have HZ7 := Lib.hid (heap_alloc_new w7 (.cells key0 28))
        clear hb7
        go_wp2_with (first
          | (refine wpList_store_keyX rfl (.tmp 13) (.tmp 54) rfl w7.heap.size X HXL.out rfl rfl HZ7.out ?_; intro w8 q2 q3; have h78 := (show Aft w7 w8 from q3 w7.heap.size w7 (Nat.le_refl _) (Aft.alloc _ _)); have H68 := Lib.hid (Aft.trans H67.out h78); have HB8 := Lib.hid (Aft.trans HB7.out h78); have HC8 := Lib.hid q2.out; have HS8 := Lib.hid (Aft.get (Aft.trans H67.out h78) HS6.out); clear q2 q3 h78)
          | (refine wpList_load_row rfl 37 (.tmp 3) rfl w.heap.size rfl 37 (shaArr s N (.slice ao (bv rest).length cap)) (0, 0) _ HS8.out Tryd.underlying37 rfl (shaArr_info _ _ _) ?_))
        refine (HRdn.out w8 HB8.out).mono ?_
        rintro e w9 ⟨rfl, hb9⟩
        have HB9 := Lib.hid (show Aft w w9 from Aft.trans HB8.out hb9)
        have H89 := Lib.hid (show Aft w8 w9 from hb9)
        have HZ9 := Lib.hid (heap_alloc_new w9 (.cells key0 28))
        clear hb9
        go_wp2_with ((refine wpList_store_keyX rfl (.tmp 15) (.tmp 59) rfl w9.heap.size X HXL.out rfl rfl HZ9.out ?_; intro wa q2 q3; have h9a := (show Aft w9 wa from q3 w9.heap.size w9 (Nat.le_refl _) (Aft.alloc _ _)); have H8a := Lib.hid (Aft.trans H89.out h9a); have HBa := Lib.hid (Aft.trans HB9.out h9a); have HDa := Lib.hid q2.out; clear q2 q3 h9a))
        have H6a := Lib.hid (Aft.trans H68.out H8a.out)
        have H4a := Lib.hid (Aft.trans H46.out H6a.out)
        have HSa := Lib.hid (Aft.get H8a.out HS8.out)
        have HOxa := Lib.hid (Aft.get H4a.out (Aft.get H34.out (Aft.get HA23.out HO2.out)))
        have HAa := Lib.hid (Aft.get H4a.out HA4.out)
        have HEa := Lib.hid (Aft.get H6a.out HE6.out)
        have HCa := Lib.hid (Aft.get H8a.out HC8.out)
        have HRva := Lib.hid ((Rd.of_own HOa.out).grow (Aft.trans H34.out H4a.out))
        have HRvb := Lib.hid (HRb.out.grow (Aft.trans H56.out H6a.out))
        have HSm := Lib.hid (fun (wx : World) (h : Aft w wx) => shaSame_any s o N M (.slice ao (bv rest).length cap) (.slice aq (bv rest2).length caq) rest rest2 wx (HR.out.grow h) (HRo.out.grow h))
        have HRsm := Lib.hid (fun (wx : World) (h : Aft w wx) => refSame_any s o N M (.slice ao (bv rest).length cap) (.slice aq (bv rest2).length caq) rest rest2 wx (HR.out.grow h) (HRo.out.grow h))
        generalize decide (s = o ∧ N = M ∧ rest = rest2) = B at *
        refine wp_region_lexF (fun i => ([0, 0, 2, 0, 0, 0, 0, 0, 0, 0, 0, 0, 0, 0, 0, 0, 0, 0, 0, 0, 2, 0, 2, 0, 0, 0, 0, 0, 2, 0, 0, 2, 0, 0, 0, 2, 2, 2, 0] : List Nat).getD i 0) 39 (by kernel_rfl) (by kernel_rfl) ?_; intro wf hwf
        have HWf := Lib.hid (show Aft wa wf by rw [hwf]; exact (Below.refl _ _).drew)
        clear hwf
        refine lf_load_row rfl (by kernel_rfl) 37 (.tmp 9) rfl w3.heap.size rfl _ (shaArr st' N1' (.slice a3 (bv rs').length c3)) _ _ (Aft.get HWf.out HAa.out) Tryd.underlying37 rfl (shaArr_info _ _ _) ?_
        simp only [Act.put, List.setIfInBounds_toArray, List.set_cons_succ, List.set_cons_zero]
        refine lf_load_row rfl (by kernel_rfl) 37 (.tmp 11) rfl w5.heap.size rfl _ (shaArr st' N1' (.slice a5 (bv rs').length c5)) _ _ (Aft.get HWf.out HEa.out) Tryd.underlying37 rfl (shaArr_info _ _ _) ?_
        simp only [Act.put, List.setIfInBounds_toArray, List.set_cons_succ, List.set_cons_zero]
        refine lf_eff rfl (by go_big_quiet_want; exact quiet_false (by assumption)) (by kernel_rfl) ?_; intro wl hl Kx hKx; go_wp2_with fail
        have HY1 := Lib.hid (show Aft wf wl from hl)
        have HZ21w := Lib.hid (show Aft w wl from Aft.trans HBa.out (Aft.trans HWf.out HY1.out))
        refine (refSame_any st' st' N1' N1' (.slice a3 (bv rs').length c3) (.slice a5 (bv rs').length c5) rs' rs' wl (HRva.out.grow (Aft.trans HWf.out HY1.out)) (HRvb.out.grow (Aft.trans HWf.out HY1.out))).mono ?_
        rintro e wm ⟨rfl, hm⟩
        have HX1 := Lib.hid (show Aft wf wm from Aft.trans HY1.out hm)
        simp only [and_self, decide_true]
        go_wp2_with fail
        refine ⟨hm, ?_⟩
        clear hm hl
        repeat (first | (refine lf_skip (by go_big_quiet_skip; exact wpQuiet_nil trivial) (by kernel_rfl) ?_; simp only [Act.put, List.setIfInBounds_toArray, List.set_cons_succ, List.set_cons_zero]) | (refine lf_quiet rfl (by go_big_quiet_want; exact quiet_false (by assumption)) (by kernel_rfl) rfl ?_; intro Kx hKx; go_big_quiet_op; go_big_quiet_on))
        refine lf_load_row rfl (by kernel_rfl) 28 (.tmp 13) rfl w7.heap.size rfl _ (bv X).toArray _ _ (Aft.get HWf.out HCa.out) Tryd.underlying28 rfl (by rw [List.size_toArray, bv_length, HXL.out]; kernel_rfl) ?_
        simp only [Act.put, List.setIfInBounds_toArray, List.set_cons_succ, List.set_cons_zero]
        refine lf_load_row rfl (by kernel_rfl) 28 (.tmp 15) rfl w9.heap.size rfl _ (bv X).toArray _ _ (Aft.get HWf.out HDa.out) Tryd.underlying28 rfl (by rw [List.size_toArray, bv_length, HXL.out]; kernel_rfl) ?_
        simp only [Act.put, List.setIfInBounds_toArray, List.set_cons_succ, List.set_cons_zero]
        refine lf_bin rfl (by kernel_rfl) .eql 28 28 (.tmp 70) (.tmp 71) rfl _ _ _ rfl rfl (run_eql_key X HXL.out) (guard_key _ _ _ _ _) ?_
        simp only [Act.put, List.setIfInBounds_toArray, List.set_cons_succ, List.set_cons_zero]
        repeat (first | (refine lf_skip (by go_big_quiet_skip; exact wpQuiet_nil trivial) (by kernel_rfl) ?_; simp only [Act.put, List.setIfInBounds_toArray, List.set_cons_succ, List.set_cons_zero]) | (refine lf_quiet rfl (by go_big_quiet_want; exact quiet_false (by assumption)) (by kernel_rfl) rfl ?_; intro Kx hKx; go_big_quiet_op; go_big_quiet_on))
        refine lf_load_row rfl (by kernel_rfl) 37 (.tmp 3) rfl w.heap.size rfl _ (shaArr s N (.slice ao (bv rest).length cap)) _ _ (Aft.get HWf.out HSa.out) Tryd.underlying37 rfl (shaArr_info _ _ _) ?_
        simp only [Act.put, List.setIfInBounds_toArray, List.set_cons_succ, List.set_cons_zero]
        refine lf_eff rfl (by go_big_quiet_want; exact quiet_false (by assumption)) (by kernel_rfl) ?_; intro wl hl Kx hKx; go_wp2_with fail
        have HY2 := Lib.hid (show Aft wf wl from Aft.trans HX1.out hl)
        have HZ22w := Lib.hid (show Aft w wl from Aft.trans HBa.out (Aft.trans HWf.out HY2.out))
        refine (HCk.out wl).mono ?_
        rintro e wm ⟨rfl, hm⟩
        have HX2 := Lib.hid (show Aft wf wm from Aft.trans HY2.out hm)
        go_wp2_with fail
        refine ⟨hm, ?_⟩
        clear hm hl
        repeat (first | (refine lf_skip (by go_big_quiet_skip; exact wpQuiet_nil trivial) (by kernel_rfl) ?_; simp only [Act.put, List.setIfInBounds_toArray, List.set_cons_succ, List.set_cons_zero]) | (refine lf_quiet rfl (by go_big_quiet_want; exact quiet_false (by assumption)) (by kernel_rfl) rfl ?_; intro Kx hKx; go_big_quiet_op; go_big_quiet_on))
        refine lf_load_row rfl (by kernel_rfl) 37 (.tmp 3) rfl w.heap.size rfl _ (shaArr s N (.slice ao (bv rest).length cap)) _ _ (Aft.get HWf.out HSa.out) Tryd.underlying37 rfl (shaArr_info _ _ _) ?_
        simp only [Act.put, List.setIfInBounds_toArray, List.set_cons_succ, List.set_cons_zero]
        refine lf_eff rfl (by go_big_quiet_want; exact quiet_false (by assumption)) (by kernel_rfl) ?_; intro wl hl Kx hKx; go_wp2_with fail
        have HY3 := Lib.hid (show Aft wf wl from Aft.trans HX2.out hl)
        have HZ23w := Lib.hid (show Aft w wl from Aft.trans HBa.out (Aft.trans HWf.out HY3.out))
        refine (HRck.out wl).mono ?_
        rintro e wm ⟨rfl, hm⟩
        have HX3 := Lib.hid (show Aft wf wm from Aft.trans HY3.out hm)
        go_wp2_with fail
        refine ⟨hm, ?_⟩
        clear hm hl
        repeat (first | (refine lf_skip (by go_big_quiet_skip; exact wpQuiet_nil trivial) (by kernel_rfl) ?_; simp only [Act.put, List.setIfInBounds_toArray, List.set_cons_succ, List.set_cons_zero]) | (refine lf_quiet rfl (by go_big_quiet_want; exact quiet_false (by assumption)) (by kernel_rfl) rfl ?_; intro Kx hKx; go_big_quiet_op; go_big_quiet_on))
        refine lf_load_row rfl (by kernel_rfl) 37 (.tmp 3) rfl w.heap.size rfl _ (shaArr s N (.slice ao (bv rest).length cap)) _ _ (Aft.get HWf.out HSa.out) Tryd.underlying37 rfl (shaArr_info _ _ _) ?_
        simp only [Act.put, List.setIfInBounds_toArray, List.set_cons_succ, List.set_cons_zero]
        refine lf_load_row rfl (by kernel_rfl) 37 (.tmp 4) rfl (w.heap.size + 1) rfl _ (shaArr o M (.slice aq (bv rest2).length caq)) _ _ (Aft.get HWf.out HOxa.out) Tryd.underlying37 rfl (shaArr_info _ _ _) ?_
        simp only [Act.put, List.setIfInBounds_toArray, List.set_cons_succ, List.set_cons_zero]
        refine lf_eff rfl (by go_big_quiet_want; exact quiet_false (by assumption)) (by kernel_rfl) ?_; intro wl hl Kx hKx; go_wp2_with fail
        have HY4 := Lib.hid (show Aft wf wl from Aft.trans HX3.out hl)
        have HZ24w := Lib.hid (show Aft w wl from Aft.trans HBa.out (Aft.trans HWf.out HY4.out))
        refine (HSm.out wl HZ24w.out).mono ?_
        rintro e wm ⟨rfl, hm⟩
        have HX4 := Lib.hid (show Aft wf wm from Aft.trans HY4.out hm)
        go_wp2_with fail
        refine ⟨hm, ?_⟩
        clear hm hl
        refine lf_load_row rfl (by kernel_rfl) 37 (.tmp 3) rfl w.heap.size rfl _ (shaArr s N (.slice ao (bv rest).length cap)) _ _ (Aft.get HWf.out HSa.out) Tryd.underlying37 rfl (shaArr_info _ _ _) ?_
        simp only [Act.put, List.setIfInBounds_toArray, List.set_cons_succ, List.set_cons_zero]
        refine lf_load_row rfl (by kernel_rfl) 37 (.tmp 4) rfl (w.heap.size + 1) rfl _ (shaArr o M (.slice aq (bv rest2).length caq)) _ _ (Aft.get HWf.out HOxa.out) Tryd.underlying37 rfl (shaArr_info _ _ _) ?_
        simp only [Act.put, List.setIfInBounds_toArray, List.set_cons_succ, List.set_cons_zero]
        refine lf_eff rfl (by go_big_quiet_want; exact quiet_false (by assumption)) (by kernel_rfl) ?_; intro wl hl Kx hKx; go_wp2_with fail
        have HY5 := Lib.hid (show Aft wf wl from Aft.trans HX4.out hl)
        have HZ25w := Lib.hid (show Aft w wl from Aft.trans HBa.out (Aft.trans HWf.out HY5.out))
        refine (HRsm.out wl HZ25w.out).mono ?_
        rintro e wm ⟨rfl, hm⟩
        have HX5 := Lib.hid (show Aft wf wm from Aft.trans HY5.out hm)
        go_wp2_with fail
        refine ⟨hm, ?_⟩
        clear hm hl
        repeat (first | (refine lf_skip (by go_big_quiet_skip; exact wpQuiet_nil trivial) (by kernel_rfl) ?_; simp only [Act.put, List.setIfInBounds_toArray, List.set_cons_succ, List.set_cons_zero]) | (refine lf_quiet rfl (by go_big_quiet_want; exact quiet_false (by assumption)) (by kernel_rfl) rfl ?_; intro Kx hKx; go_big_quiet_op; go_big_quiet_on))
        refine lf_eff rfl (by go_big_quiet_want; exact quiet_false (by assumption)) (by kernel_rfl) ?_; intro wl hl Kx hKx; go_wp2_with fail
        have HY6 := Lib.hid (show Aft wf wl from Aft.trans HX5.out hl)
        have HZ26w := Lib.hid (show Aft w wl from Aft.trans HBa.out (Aft.trans HWf.out HY6.out))
        refine (new_any' wl).mono ?_
        rintro e wm ⟨rfl, hm⟩
        have HX6 := Lib.hid (show Aft wf wm from Aft.trans HY6.out hm)
        go_wp2_with fail
        refine ⟨hm, ?_⟩
        clear hm hl
        refine lf_eff rfl (by go_big_quiet_want; exact quiet_false (by assumption)) (by kernel_rfl) ?_; intro wl hl Kx hKx; go_wp2_with fail
        have HY7 := Lib.hid (show Aft wf wl from Aft.trans HX6.out hl)
        have HZ27w := Lib.hid (show Aft w wl from Aft.trans HBa.out (Aft.trans HWf.out HY7.out))
        refine (refNew_any wl).mono ?_
        rintro e wm ⟨rfl, hm⟩
        have HX7 := Lib.hid (show Aft wf wm from Aft.trans HY7.out hm)
        go_wp2_with fail
        refine ⟨hm, ?_⟩
        clear hm hl
        refine lf_eff rfl (by go_big_quiet_want; exact quiet_false (by assumption)) (by kernel_rfl) ?_; intro wl hl Kx hKx; go_wp2_with fail
        have HY8 := Lib.hid (show Aft wf wl from Aft.trans HX7.out hl)
        have HZ28w := Lib.hid (show Aft w wl from Aft.trans HBa.out (Aft.trans HWf.out HY8.out))
        refine (refSame_any iv iv 0 0 (.slice none 0 0) (.slice none 0 0) [] [] wl (Rd.nil _) (Rd.nil _)).mono ?_
        rintro e wm ⟨rfl, hm⟩
        have HX8 := Lib.hid (show Aft wf wm from Aft.trans HY8.out hm)
        simp only [and_self, decide_true]
        go_wp2_with fail
        refine ⟨hm, ?_⟩
        clear hm hl
        repeat (first | (refine lf_skip (by go_big_quiet_skip; exact wpQuiet_nil trivial) (by kernel_rfl) ?_; simp only [Act.put, List.setIfInBounds_toArray, List.set_cons_succ, List.set_cons_zero]) | (refine lf_quiet rfl (by go_big_quiet_want; exact quiet_false (by assumption)) (by kernel_rfl) rfl ?_; intro Kx hKx; go_big_quiet_op; go_big_quiet_on))
        refine lf_done ?_
        intro wn hn
        have H3n := Lib.hid (show Aft w3 wn from Aft.trans H34.out (Aft.trans H4a.out (Aft.trans HWf.out (Aft.trans HX8.out hn))))
        have HBn := Lib.hid (show Aft w wn from Aft.trans HB3.out H3n.out)
        have HAn := Lib.hid (Aft.get (Aft.trans HWf.out (Aft.trans HX8.out hn)) HAa.out)
        have HSn := Lib.hid (Aft.get (Aft.trans HWf.out (Aft.trans HX8.out hn)) HSa.out)
        have HOn := Lib.hid (ownsRow_below HOa.out (w' := wn) fun g hg => Below.block H3n.out g (own_lt HOa.out hg).2)
        have HCn := Lib.hid (HC2.out.grow (Aft.trans HA23.out H3n.out))
        have hsz2 : w.heap.size + 1 < w2.heap.size := heap_lt HO2.out
        have hsz3 : w2.heap.size ≤ w3.heap.size := Below.size HA23.out
        have hsl := (Rd.of_own HOa.out).sl
        have hxs0 : ∀ j, j < (bv rs').length → ∃ z, (bv rs')[j]? = some (.int .u8 z) := fun j hj => ⟨_, bv_at rs' j (by rw [bv_length] at hj; exact hj)⟩
        have HX0 := Lib.hid hxs0
        clear hn hxs0
        generalize hnn : (bv rs').length = n at *
        obtain ⟨-, -, -, -, -, -, -, -, -, k9⟩ := sha_all (sha_row HAn.out)
        have HSl := Lib.hid hsl.2
        clear hsl hnn
        go_wp2_with fail
        go_loopw [103] (fun v wr => ∃ i : Nat, i ≤ n ∧ v = .int .i64 i ∧ (∃ xs, wr.ownsRow w2.heap.size 5 1 (.slice a3 n c3) n xs ∧ ∀ j, j < n → ∃ z, xs[j]? = some (.int .u8 z)) ∧ Fr (fun k => w2.heap.size ≤ k ∧ k < w3.heap.size) wn wr) (fun v _ => n - (intOf v).toNat)
        case atStart => exact ⟨0, by omega, rfl, ⟨_, HOn.out, HX0.out⟩, Fr.refl _ _⟩
        case round =>
          obtain ⟨i, hi, rfl, ⟨xs, hox, hxs⟩, hfr⟩ := hrel
          have HAr := Lib.hid ((hfr.block _ (heap_lt HAn.out) (by omega)).trans HAn.out)
          have HSr := Lib.hid ((hfr.block _ (heap_lt HSn.out) (by omega)).trans HSn.out)
          by_cases hlt : i < n
          · have hlt' : (i : Int) < (n : Int) := by omega
            have hn63 : (i : Int) + 1 ≤ 9223372036854775807 := by have := HSl.out; omega
            have hform : ∃ g, a3 = some ⟨g, 0, none⟩ ∧ w2.heap.size ≤ g ∧ g < w3.heap.size := by
              rcases HOa.out.2 with ⟨hv, h0⟩ | ⟨g, cap, cur, hv, hge, hgg, _⟩
              · omega
              · cases hv; exact ⟨g, rfl, hge, heap_lt hgg⟩
            obtain ⟨g, rfl, hg1, hg2⟩ := hform
            obtain ⟨z, hz⟩ := hxs i hlt
            have hcl : wr.cell? ⟨g, i, none⟩ = some (.int .u8 z) := by rw [hox.cellAt i (by omega)]; exact hz
            have hfz := hox.frozenAt i
            have HOx := Lib.hid hox
            have HXs := Lib.hid hxs
            have HFr := Lib.hid hfr
            have HLx := Lib.hid hox.1
            obtain ⟨-, -, -, -, -, -, -, -, -, r9⟩ := sha_all (sha_row HAr.out)
            clear hox hxs hfr hz
            go_wp2_with fail
            go_roundw
            case rel =>
              refine ⟨i + 1, by omega, by go_num, ⟨_, (HOx.out.stored i _).1, fun j hj => ?_⟩, HFr.out.setCell ⟨hg1, hg2⟩ _⟩
              by_cases hji : j = i
              · subst hji
                rw [List.getElem?_set_self (by have := HLx.out; omega)]
                exact ⟨_, rfl⟩
              · rw [List.getElem?_set_ne (fun e => hji e.symm)]
                exact HXs.out j hj
            case measure => simp [intOf]; omega
          · obtain rfl : i = n := by omega
            have hlt' : ¬ (i : Int) < (i : Int) := by omega
            obtain ⟨-, -, -, -, -, -, -, -, -, r9⟩ := sha_all (sha_row HSr.out)
            have HFr := Lib.hid hfr
            have HBr := Lib.hid (show Below w.heap.size w wr from Below.trans HBn.out (hfr.below (B := w.heap.size) (Below.size HBn.out) (fun k hk => by omega)))
            clear hox hxs hfr
            go_wp2_with fail
            refine (same_any _ _ rest rest wr (HR.out.grow HBr.out) (HCn.out.fr HFr.out (fun g hg hx => by have := HC2.out.lt hg hx; omega))).mono ?_
            rintro e w' ⟨rfl, rfl⟩
            go_wp2_with fail
            go_ret
            exact ⟨by simp, HBr.out⟩
  · rw [decide_eq_false hf]
    go_wp2_with fail
    go_ret
    exact ⟨rfl, HB1.out⟩
end Go.Proofs.YtifehfcgmodmaaaDoor
