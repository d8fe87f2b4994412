/- coterieref02.Done: the document's end of a sum that stands in a block. -/
import Derived.Test.YtifehfcgmodmaaaDoorRefBox
namespace Go.Proofs.YtifehfcgmodmaaaDoor
open Go Go.RowKit
theorem finKey_abs (s : St) (N : Nat) (rest : List (BitVec 8)) : finKey K0 s N rest = keyBytes (absorb K0 ((rest ++ tailB N 8).length / 64) s (rest ++ tailB N 8)) := rfl
set_option maxRecDepth 100000 in
set_option maxHeartbeats 2000000 in
theorem refDone_any (s : St) (N : Nat) (vr : Value) (rest : List (BitVec 8)) (w : World) (hK : TabK K0 0 w) (hrd : Rd w vr (bv rest)) (hN : N < 18446744073709551616) (hlen : rest.length ≤ 1099511627776) :
    Calls Tryd.prog 36 #[.agg #[.int .u32 (wn s.a), .int .u32 (wn s.b), .int .u32 (wn s.c), .int .u32 (wn s.d), .int .u32 (wn s.e), .int .u32 (wn s.f), .int .u32 (wn s.g), .int .u32 (wn s.h), .int .u64 (N : Int), vr]] w fun e w' =>
      (e = .returned (.tuple #[.agg (if chk s N (bv rest).length = 0 then (bv (finKey K0 s N rest)).toArray else key0), .int .i64 (chk s N (bv rest).length)])) ∧ Below w.heap.size w w' := by
  have HR := Lib.hid hrd
  have HK := Lib.hid hK
  have HL := Lib.hid hlen
  obtain ⟨ao, cap, rfl, -, -, -, -⟩ := hrd
  have HC := Lib.hid (fun w => refCheck_any s N (bv rest).length cap ao w hN (by rw [bv_length]; exact hlen))
  clear hK hlen
  go_enter Tryd.func36, Tryd.ntmps36
  go_wp2_with fail
  refine (HC.out _).mono ?_
  rintro e w1 ⟨rfl, hb1⟩
  change Below (finW s N (.slice ao (bv rest).length cap) w).heap.size (finW s N (.slice ao (bv rest).length cap) w) w1 at hb1
  have hb2 := (finW_below s N (.slice ao (bv rest).length cap) w).trans (hb1.mono (by rw [finW_size]; omega))
  have hout1 : w1.heap[w.heap.size + 1]? = some (.cells key0 28 (0, 0)) := (hb1.block _ (by rw [finW_size]; omega)).trans (heap_alloc2_new w _ _)
  have h1 := (finW_sha s N (.slice ao (bv rest).length cap) w).of_block (hb1.block w.heap.size (by rw [finW_size]; omega))
  have HB := Lib.hid (show Below w.heap.size w w1 from hb2)
  have HO := Lib.hid hout1
  have HS := Lib.hid (sha_whole h1)
  have hlt1 : w.heap.size + 1 < w1.heap.size := heap_lt hout1
  clear hb1 hb2 hout1
  rcases chk_cases s N (bv rest).length with hc | hc
  · obtain ⟨hN2, hmod, -⟩ := chk_ok hc
    rw [bv_length] at hmod
    have g9 := h1.cell (i := 9) (by omega)
    rw [shaCells_9] at g9
    have hpt := pad_tail rest N (by omega)
    have hwh := pad_whole rest N (by omega)
    have hfk := finKey_abs s N rest
    have hkl := keyBytes_length (absorb K0 ((rest ++ tailB N 8).length / 64) s (rest ++ tailB N 8))
    have hlb : (rest ++ tailB N 8).length ≤ 1000 := by rw [List.length_append, tailB_length]; omega
    generalize rest ++ tailB N 8 = b at *
    have HPt := Lib.hid hpt
    have HWh := Lib.hid hwh
    have HFk := Lib.hid hfk
    have HKl := Lib.hid hkl
    have HLb := Lib.hid hlb
    have HMod := Lib.hid hmod
    have HN2 := Lib.hid hN2
    have HCc := Lib.hid hc
    clear hpt hwh hfk hkl hlb hmod h1
    go_wp2_with fail
    refine (copy_any _ rest w1 (HR.out.grow HB.out) (by have := HL.out; omega)).mono ?_
    rintro e w2 ⟨a2, c2, rfl, ho2, hb2⟩
    have HO2 := Lib.hid (ho2.alloc (.cells #[.int .u8 (bn 128)] 5))
    have HR2 := Lib.hid (Rd.of_own (World.ownsRow_lit (base := w2.heap.size) (e := 5) (size := 1) w2 #[.int .u8 (bn 128)] 1 (Nat.le_refl _) (by decide) rfl))
    have HA2 := Lib.hid (show Aft w1 w2 from hb2)
    have h128 : (128 : Int) = bn 128 := by decide
    have h0b : (0 : Int) = bn 0 := by decide
    have H0 := Lib.hid h0b
    clear ho2 hb2 h0b h128 g9
    go_wp2_with ((at_builtin; refine wpList_append_rd rfl _ _ 25 rfl w1.heap.size 5 (.int .u8 0) 1 Tryd.underlying25 info_byte rfl (.slice a2 (bv rest).length c2) (.slice (some ⟨w2.heap.size, 0, none⟩) 1 1) (bv rest) [.int .u8 (bn 128)] rfl rfl HO2.out HR2.out (bv_one8 128) (by have := HL.out; simp [bv_length]; omega) (by have := HL.out; simp [bv_length]; omega) (by have := Below.size HA2.out; rw [World.size_alloc]; omega) ?_; intro v3 w3 k1 k2 k3; have HO3 := Lib.hid (show w3.ownsRow w1.heap.size 5 1 v3 (bv (padB rest 0)).length (bv (padB rest 0)) by rw [padB, bv_append]; exact k1); have HA3 := Lib.hid (show Aft w1 w3 from (show Below w1.heap.size w1 (w2.alloc (.cells #[.int .u8 (bn 128)] 5)) from Aft.trans HA2.out (Aft.alloc _ _)).grown k2 (by rw [World.size_alloc]; have := Below.size HA2.out; omega) (fun g hg => (own_lt HO2.out hg).1)); clear k1 k2 k3))
    go_loopw [4] (fun v4 wr => ∃ j : Nat, j ≤ zc rest.length ∧ wr.ownsRow w1.heap.size 5 1 v4 (bv (padB rest j)).length (bv (padB rest j)) ∧ Aft w1 wr) (fun v _ => rest.length + 1 + zc rest.length - lenV v)
    case atStart => exact ⟨0, by omega, HO3.out, HA3.out⟩
    case round =>
      obtain ⟨j, hj, hown, haft⟩ := hrel
      have HO := Lib.hid (⟨HO.out, hown⟩ : w1.heap[w.heap.size + 1]? = some (.cells key0 28 (0, 0)) ∧ wr.ownsRow w1.heap.size 5 1 u4 (bv (padB rest j)).length (bv (padB rest j)))
      have HF := Lib.hid haft
      have HPl := Lib.hid (show (bv (padB rest j)).length = rest.length + 1 + j by rw [bv_length, padB_length])
      have HSu := Lib.hid (padB_succ rest j)
      obtain ⟨al, cl, rfl⟩ := own_shape hown
      clear hown haft
      by_cases hlt : j < zc rest.length
      · have hne : ¬ (((bv (padB rest j)).length : Nat) : Int) % 64 = 56 := by rw [HPl.out]; unfold zc at hlt; omega
        have HOw := Lib.hid (HO.out.2.alloc (.cells #[.int .u8 0] 5))
        have HRw := Lib.hid (Rd.of_own (World.ownsRow_lit (base := wr.heap.size) (e := 5) (size := 1) wr #[.int .u8 0] 1 (Nat.le_refl _) (by decide) rfl))
        have HZc := Lib.hid (show zc rest.length < 64 by unfold zc; omega)
        go_wp2_with ((at_builtin; refine wpList_append_rd rfl _ _ 25 rfl w1.heap.size 5 (.int .u8 0) 1 Tryd.underlying25 info_byte rfl (.slice al (bv (padB rest j)).length cl) (.slice (some ⟨wr.heap.size, 0, none⟩) 1 1) (bv (padB rest j)) [.int .u8 0] rfl rfl HOw.out HRw.out (bv_one8 0) (by have := HL.out; have := HPl.out; have := HZc.out; simp only [List.length_cons, List.length_nil]; omega) (by have := HL.out; have := HPl.out; have := HZc.out; simp only [List.length_cons, List.length_nil]; omega) (by have := Below.size HF.out; rw [World.size_alloc]; omega) ?_; intro v4 w4 k1 k2 k3; have HO4 := Lib.hid (show w4.ownsRow w1.heap.size 5 1 v4 (bv (padB rest (j + 1))).length (bv (padB rest (j + 1))) by rw [HSu.out, bv_append]; exact k1); have HA4 := Lib.hid (show Aft w1 w4 from (show Below w1.heap.size w1 (wr.alloc (.cells #[.int .u8 0] 5)) from Aft.trans HF.out (Aft.alloc _ _)).grown k2 (by rw [World.size_alloc]; have := Below.size HF.out; omega) (fun g hg => (own_lt HOw.out hg).1)); clear k1 k2 k3))
        go_roundw
        case rel => exact ⟨j + 1, by omega, HO4.out, HA4.out⟩
        case measure =>
          have h4 := HO4.out
          obtain ⟨a4, c4, rfl⟩ := own_shape h4
          have := padB_length rest (j + 1)
          have := HPl.out
          simp only [lenV, bv_length] at *
          omega
      · obtain rfl : j = zc rest.length := by omega
        have heq : (((bv (padB rest (zc rest.length))).length : Nat) : Int) % 64 = 56 := by rw [HPl.out]; unfold zc; omega
        have HZc := Lib.hid (show zc rest.length < 64 by unfold zc; omega)
        have hn2 := HN2.out
        have hby := refBytes_any 8 (8 * N) wr (by omega) (by omega)
        rw [show ((8 * N : Nat) : Int) = 8 * (N : Int) by omega] at hby
        have HBy := Lib.hid hby
        obtain ⟨-, -, -, -, -, -, -, -, g8, -⟩ := sha_all (sha_row (Aft.get HF.out HS.out))
        clear hby
        go_wp2_with fail
        refine HBy.out.mono ?_
        rintro e w5 ⟨a5, c5, rfl, ho5, hb5⟩
        have HO5 := Lib.hid (ownsRow_below HO.out.2 (w' := w5) fun g hg => Below.block hb5 g (own_lt HO.out.2 hg).2)
        have HR5 := Lib.hid (Rd.of_own ho5)
        have HA5 := Lib.hid (show Aft w1 w5 from Aft.trans HF.out hb5)
        have HB8 := Lib.hid (show (bv (beL 8 (8 * N))).length = 8 by rw [bv_length, beL_length])
        clear ho5 hb5 g8
        go_wp2_with ((at_builtin; refine wpList_append_rd rfl _ _ 25 rfl w1.heap.size 5 (.int .u8 0) 1 Tryd.underlying25 info_byte rfl (.slice al (bv (padB rest (zc rest.length))).length cl) (.slice a5 (bv (beL 8 (8 * N))).length c5) (bv (padB rest (zc rest.length))) (bv (beL 8 (8 * N))) rfl rfl HO5.out HR5.out (bv_one _) (by have := HL.out; have := HPl.out; have := HZc.out; have := HB8.out; omega) (by have := HL.out; have := HPl.out; have := HZc.out; have := HB8.out; omega) (Below.size HA5.out) ?_; intro v6 w6 k1 k2 k3; have HO6 := Lib.hid (show w6.ownsRow w1.heap.size 5 1 v6 (bv b).length (bv b) by rw [← HPt.out, bv_append]; exact k1); have HA6 := Lib.hid (show Aft w1 w6 from (show Below w1.heap.size w1 w5 from HA5.out).grown k2 (Below.size HA5.out) (fun g hg => (own_lt HO5.out hg).1)); clear k1 k2 k3))
        have ho6 := HO6.out
        obtain ⟨a6, c6, rfl⟩ := own_shape ho6
        clear ho6 HO5 HR5 HB8 HBy HPl HSu heq
        have HS6 := Lib.hid (Aft.get HA6.out HS.out)
        have hbl := bv_length b
        rw [hbl]
        go_loopw [5] (fun v5 wx => ∃ j : Nat, 64 * j ≤ b.length ∧ v5 = .int .i64 ((64 * j : Nat) : Int) ∧ wx.heap[w.heap.size]? = some (.cells (shaArr (absorb K0 j s b) N (.slice ao (bv rest).length cap)) 37 (0, 0)) ∧ Fr (fun k => k = w.heap.size) w6 wx) (fun v _ => b.length - (intOf v).toNat)
        case atStart => exact ⟨0, by omega, rfl, HS6.out, Fr.refl _ _⟩
        case round =>
          obtain ⟨j, hj, rfl, hv, hf⟩ := hrel
          clear hbl
          have HV := Lib.hid hv
          have HFx := Lib.hid hf
          have HW := Lib.hid (show Below w.heap.size w wr from HB.out.trans ((Below.mono HA6.out (by omega)).trans (hf.below (by have := Below.size HA6.out; omega) (fun k hk => by omega))))
          clear hv hf
          have hLb := HLb.out
          by_cases hlt : 64 * j < b.length
          · have hlt' : ((64 * j : Nat) : Int) < (b.length : Int) := by omega
            have h64 : 64 * j + 64 ≤ b.length := by have := HWh.out; omega
            have hrd := (Rd.of_own HO6.out).fr HFx.out (fun g hg _ => by have := (own_lt HO6.out hg).1; omega)
            rw [bv_length] at hrd
            obtain ⟨gb, ob, hcut, hrb⟩ := cut_blk hrd h64 (64 * (j : Int)) (64 * (j : Int) + 64) (by omega) (by omega)
            have HRb := Lib.hid hrb
            have HCut := Lib.hid hcut
            have HAb := Lib.hid (absorb_blk K0 s b j)
            have HBl := Lib.hid (blk_length h64)
            clear hrd hrb hcut
            generalize blk b j = bj at *
            generalize hs1 : absorb K0 (j + 1) s b = s1 at *
            have HS1 := Lib.hid hs1
            clear hs1
            generalize absorb K0 j s b = s0 at *
            go_wp2_with fail
            refine wp_region_lexF (fun i => ([0, 0, 0, 0, 0, 0, 0, 2, 0] : List Nat).getD i 0) 9 (by kernel_rfl) (by kernel_rfl) ?_; intro wi hwi
            have HWi := Lib.hid (show Aft wr wi by rw [hwi]; exact (Below.refl _ _).drew)
            clear hwi
            refine lf_quiet rfl (by go_big_quiet_want; exact quiet_false (by assumption)) (by kernel_rfl) rfl ?_; intro Kx hKx; go_big_quiet_op; go_big_quiet_on
            refine lf_load_st rfl (by kernel_rfl) (.tmp 34) rfl w.heap.size rfl s0 N _ (Aft.get HWi.out HV.out) ?_
            simp only [Act.put, List.setIfInBounds_toArray, List.set_cons_succ, List.set_cons_zero]
            have hcut := HCut.out
            repeat (first | (refine lf_skip (by go_big_quiet_skip; exact wpQuiet_nil trivial) (by kernel_rfl) ?_; simp only [Act.put, List.setIfInBounds_toArray, List.set_cons_succ, List.set_cons_zero]) | (refine lf_quiet rfl (by go_big_quiet_want; exact quiet_false (by assumption)) (by kernel_rfl) rfl ?_; intro Kx hKx; go_big_quiet_op; go_big_quiet_on))
            clear hcut
            refine lf_eff rfl (by go_big_quiet_want; exact quiet_false (by assumption)) (by kernel_rfl) ?_; intro wl hl Kx hKx; go_wp2_with fail
            have hlw := (show Aft wr wl from Aft.trans HWi.out hl)
            refine (block_any s0 gb ob 64 (c6 - 64 * j) bj wl (TabK_fr HK.out (Fr.of_below (S := fun _ => False) (HW.out.trans (Below.mono hlw (Below.size HW.out)))) (fun h => h)) (HRb.out.grow hlw) (by rw [HBl.out]; omega)).mono ?_
            rintro e wm ⟨rfl, hm⟩
            rw [HAb.out]
            have HM := Lib.hid (show Aft wr wm from Aft.trans hlw hm)
            go_wp2_with fail
            refine ⟨hm, ?_⟩
            clear hm hl hlw
            repeat (first | (refine lf_skip (by go_big_quiet_skip; exact wpQuiet_nil trivial) (by kernel_rfl) ?_; simp only [Act.put, List.setIfInBounds_toArray, List.set_cons_succ, List.set_cons_zero]) | (refine lf_quiet rfl (by go_big_quiet_want; exact quiet_false (by assumption)) (by kernel_rfl) rfl ?_; intro Kx hKx; go_big_quiet_op; go_big_quiet_on))
            refine lf_done ?_
            intro wn1 hn1
            have HN := Lib.hid (show Aft wr wn1 from Aft.trans HM.out hn1)
            have HVn := Lib.hid (Aft.get HN.out HV.out)
            have HFn := Lib.hid (HFx.out.trans (Fr.of_below HN.out))
            clear hn1
            go_wp2_with ((refine wpList_store_st rfl (.tmp 42) (.tmp 41) rfl w.heap.size s0 s1 N _ rfl rfl HVn.out ?_; intro wp q2 q3; have HVp := Lib.hid q2.out; have HFp := Lib.hid (HFn.out.trans q3.out); clear q2 q3))
            go_roundw
            case rel => exact ⟨j + 1, by omega, by go_num, by rw [HS1.out]; exact HVp.out, HFp.out⟩
            case measure => simp [intOf]; omega
          · have hjl : j = b.length / 64 := by have := HWh.out; omega
            have hlt' : ¬ ((64 * j : Nat) : Int) < (b.length : Int) := by omega
            subst hjl
            have hkb := fun wx => refKey_any (absorb K0 (b.length / 64) s b) wx
            have hkl := HKl.out
            rw [← HFk.out] at hkb hkl
            have HKb := Lib.hid hkb
            have HXl := Lib.hid hkl
            clear hkb hkl
            generalize absorb K0 (b.length / 64) s b = s0 at *
            generalize hX : finKey K0 s N rest = X at *
            have HXe := Lib.hid hX
            clear hX
            have HZr := Lib.hid ((HFx.out.block (w.heap.size + 1) (by have := Below.size HA6.out; omega) (by omega)).trans (Aft.get HA6.out HO.out.1))
            go_wp2_with ((refine wpList_load_st rfl (.tmp 43) rfl w.heap.size s0 N _ rfl HV.out ?_))
            refine (HKb.out _).mono ?_
            rintro e w7 ⟨rfl, hb7⟩
            have HZ7 := Lib.hid (Aft.get hb7 HZr.out)
            have HA7 := Lib.hid (HW.out.trans (Below.mono hb7 (Below.size HW.out)))
            clear hb7
            go_wp2_with ((refine wpList_store_keyX rfl (.tmp 2) (.tmp 45) rfl (w.heap.size + 1) X HXl.out rfl rfl HZ7.out ?_; intro w8 q2 q3; have HK8 := Lib.hid q2.out; have HB8 := Lib.hid (q3 w.heap.size w (by omega) HA7.out); clear q2 q3))
            have hsz8 : (Tryd.prog.info? 28).map (·.size) = some (bv X).toArray.size := by rw [List.size_toArray, bv_length, HXl.out]; kernel_rfl
            refine bodyPost_ret (results_cell_tmp rfl _ _ (w.heap.size + 1) 28 (bv X).toArray (0, 0) _ rfl HK8.out Tryd.underlying28 rfl hsz8) rfl ?_
            exact ⟨by rw [HXe.out]; rfl, HB8.out⟩
  · have hs32 : (Tryd.prog.info? 28).map (·.size) = some key0.size := by kernel_rfl
    go_wp2_with ((refine wpList_store_key0 rfl (.tmp 2) (.tmp 9) rfl (w.heap.size + 1) rfl rfl HO.out ?_; intro w3 q2 q3))
    refine bodyPost_ret (results_cell_tmp rfl _ _ (w.heap.size + 1) 28 key0 (0, 0) _ rfl q2.out Tryd.underlying28 rfl hs32) rfl ?_
    exact ⟨rfl, q3 _ _ (by omega) HB.out⟩
end Go.Proofs.YtifehfcgmodmaaaDoor
