import Derived.Test.YtifehfcgmodmaaaDoorA6
import Derived.Test.YtifehfcgmodmaaaDoorA4
import Derived.Test.YtifehfcgmodmaaaDoorA5
/- coterieref02.Done: the document's end of a sum that stands in a block. -/
namespace Go.Proofs.YtifehfcgmodmaaaDoor
open Go Go.RowKit
theorem finKey_abs (s : St) (N : Nat) (rest : List (BitVec 8)) : finKey K0 s N rest = keyBytes (absorb K0 ((rest ++ tailB N 8).length / 64) s (rest ++ tailB N 8)) := rfl
set_option maxRecDepth 100000 in
set_option maxHeartbeats 2000000 in
theorem refDone_any (s : St) (N : Nat) (vr : Value) (rest : List (BitVec 8)) (w : World) (hK : TabK K0 0 w) (hrd : Rd w vr (bv rest)) (hN : N < 18446744073709551616) (hlen : rest.length ≤ 1099511627776) :
    Calls Tryd.prog 36 #[.agg #[.int .u32 (wn s.a), .int .u32 (wn s.b), .int .u32 (wn s.c), .int .u32 (wn s.d), .int .u32 (wn s.e), .int .u32 (wn s.f), .int .u32 (wn s.g), .int .u32 (wn s.h), .int .u64 (N : Int), vr]] w fun e w' =>
      (e = .returned (.tuple #[.agg (if chk s N (bv rest).length = 0 then (bv (finKey K0 s N rest)).toArray else key0), .int .i64 (chk s N (bv rest).length)])) ∧ Below w.heap.size w w' := by
  have HR := Lib.hid hrd
  have HK := Lib.hid hK
  have HL := Lib.hid hlen
  obtain ⟨ao, cap, rfl, -, -, -, -⟩ := hrd
  have HC := Lib.hid (fun w => refCheck_any s N (bv rest).length cap ao w hN (by rw [bv_length]; exact hlen))
  clear hK hlen
  go_enter Tryd.func36, Tryd.ntmps36
  go_wp2_with fail
  refine (HC.out _).mono ?_
  rintro e w1 ⟨rfl, hb1⟩
  change Below (finW s N (.slice ao (bv rest).length cap) w).heap.size (finW s N (.slice ao (bv rest).length cap) w) w1 at hb1
  have hb2 := (finW_below s N (.slice ao (bv rest).length cap) w).trans (hb1.mono (by rw [finW_size]; omega))
  have hout1 : w1.heap[w.heap.size + 1]? = some (.cells key0 28 (0, 0)) := (hb1.block _ (by rw [finW_size]; omega)).trans (heap_alloc2_new w _ _)
  have h1 := (finW_sha s N (.slice ao (bv rest).length cap) w).of_block (hb1.block w.heap.size (by rw [finW_size]; omega))
  have HB := Lib.hid (show Below w.heap.size w w1 from hb2)
  have HO := Lib.hid hout1
  have HS := Lib.hid (sha_whole h1)
  have hlt1 : w.heap.size + 1 < w1.heap.size := heap_lt hout1
  clear hb1 hb2 hout1
  rcases chk_cases s N (bv rest).length with hc | hc
  · obtain ⟨hN2, hmod, -⟩ := chk_ok hc
    rw [bv_length] at hmod
    have g9 := h1.cell (i := 9) (by omega)
    rw [shaCells_9] at g9
    have hpt := pad_tail rest N (by omega)
    have hwh := pad_whole rest N (by omega)
    have hfk := finKey_abs s N rest
    have hkl := keyBytes_length (absorb K0 ((rest ++ tailB N 8).length / 64) s (rest ++ tailB N 8))
    have hlb : (rest ++ tailB N 8).length ≤ 1000 := by rw [List.length_append, tailB_length]; omega
    generalize rest ++ tailB N 8 = b at *
    have HPt := Lib.hid hpt
    have HWh := Lib.hid hwh
    have HFk := Lib.hid hfk
    have HKl := Lib.hid hkl
    have HLb := Lib.hid hlb
    have HMod := Lib.hid hmod
    have HN2 := Lib.hid hN2
    have HCc := Lib.hid hc
    clear hpt hwh hfk hkl hlb hmod h1
    go_wp2_with fail
    refine (copy_any _ rest w1 (HR.out.grow HB.out) (by have := HL.out; omega)).mono ?_
    rintro e w2 ⟨a2, c2, rfl, ho2, hb2⟩
    have HO2 := Lib.hid (ho2.alloc (.cells #[.int .u8 (bn 128)] 5))
    have HR2 := Lib.hid (Rd.of_own (World.ownsRow_lit (base := w2.heap.size) (e := 5) (size := 1) w2 #[.int .u8 (bn 128)] 1 (Nat.le_refl _) (by decide) rfl))
    have HA2 := Lib.hid (show Aft w1 w2 from hb2)
    have h128 : (128 : Int) = bn 128 := by decide
    have h0b : (0 : Int) = bn 0 := by decide
    have H0 := Lib.hid h0b
    clear ho2 hb2 h0b h128 g9
    go_wp2_with ((at_builtin; refine wpList_append_rd rfl _ _ 25 rfl w1.heap.size 5 (.int .u8 0) 1 Tryd.underlying25 info_byte rfl (.slice a2 (bv rest).length c2) (.slice (some ⟨w2.heap.size, 0, none⟩) 1 1) (bv rest) [.int .u8 (bn 128)] rfl rfl HO2.out HR2.out (bv_one8 128) (by have := HL.out; simp [bv_length]; omega) (by have := HL.out; simp [bv_length]; omega) (by have := Below.size HA2.out; rw [World.size_alloc]; omega) ?_; intro v3 w3 k1 k2 k3; have HO3 := Lib.hid (show w3.ownsRow w1.heap.size 5 1 v3 (bv (padB rest 0)).length (bv (padB rest 0)) by rw [padB, bv_append]; exact k1); have HA3 := Lib.hid (show Aft w1 w3 from (show Below w1.heap.size w1 (w2.alloc (.cells #[.int .u8 (bn 128)] 5)) from Aft.trans HA2.out (Aft.alloc _ _)).grown k2 (by rw [World.size_alloc]; have := Below.size HA2.out; omega) (fun g hg => (own_lt HO2.out hg).1)); clear k1 k2 k3))
    go_loopw [4] (fun v4 wr => ∃ j : Nat, j ≤ zc rest.length ∧ wr.ownsRow w1.heap.size 5 1 v4 (bv (padB rest j)).length (bv (padB rest j)) ∧ Aft w1 wr) (fun v _ => rest.length + 1 + zc rest.length - lenV v)
    case atStart => exact ⟨0, by omega, HO3.out, HA3.out⟩
    case round =>
      obtain ⟨j, hj, hown, haft⟩ := hrel
      have HO := Lib.hid (⟨HO.out, hown⟩ : w1.heap[w.heap.size + 1]? = some (.cells key0 28 (0, 0)) ∧ wr.ownsRow w1.heap.size 5 1 u4 (bv (padB rest j)).length (bv (padB rest j)))
      have HF := Lib.hid haft
      have HPl := Lib.hid (show (bv (padB rest j)).length = rest.length + 1 + j by rw [bv_length, padB_length])
      have HSu := Lib.hid (padB_succ rest j)
      obtain ⟨al, cl, rfl⟩ := own_shape hown
      clear hown haft
      by_cases hlt : j < zc rest.length
      · have hne : ¬ (((bv (padB rest j)).length : Nat) : Int) % 64 = 56 := by rw [HPl.out]; unfold zc at hlt; omega
        have HOw := Lib.hid (HO.out.2.alloc (.cells #[.int .u8 0] 5))
        have HRw := Lib.hid (Rd.of_own (World.ownsRow_lit (base := wr.heap.size) (e := 5) (size := 1) wr #[.int .u8 0] 1 (Nat.le_refl _) (by decide) rfl))
        have HZc := Lib.hid (show zc rest.length < 64 by unfold zc; omega)
        go_wp2_with ((at_builtin; refine wpList_append_rd rfl _ _ 25 rfl w1.heap.size 5 (.int .u8 0) 1 Tryd.underlying25 info_byte rfl (.slice al (bv (padB rest j)).length cl) (.slice (some ⟨wr.heap.size, 0, none⟩) 1 1) (bv (padB rest j)) [.int .u8 0] rfl rfl HOw.out HRw.out (bv_one8 0) (by have := HL.out; have := HPl.out; have := HZc.out; simp only [List.length_cons, List.length_nil]; omega) (by have := HL.out; have := HPl.out; have := HZc.out; simp only [List.length_cons, List.length_nil]; omega) (by have := Below.size HF.out; rw [World.size_alloc]; omega) ?_; intro v4 w4 k1 k2 k3; have HO4 := Lib.hid (show w4.ownsRow w1.heap.size 5 1 v4 (bv (padB rest (j + 1))).length (bv (padB rest (j + 1))) by rw [HSu.out, bv_append]; exact k1); have HA4 := Lib.hid (show Aft w1 w4 from (show Below w1.heap.size w1 (wr.alloc (.cells #[.int .u8 0] 5)) from Aft.trans HF.out (Aft.alloc _ _)).grown k2 (by rw [World.size_alloc]; have := Below.size HF.out; omega) (fun g hg => (own_lt HOw.out hg).1)); clear k1 k2 k3))
        go_roundw
        case rel => exact ⟨j + 1, by omega, HO4.out, HA4.out⟩
        case measure =>
          have h4 := HO4.out
          obtain ⟨a4, c4, rfl⟩ := own_shape h4
          have := padB_length rest (j + 1)
          have := HPl.out
          simp only [lenV, bv_length] at *
          omega
      · obtain rfl : j = zc rest.length := by omega
        have heq : (((bv (padB rest (zc rest.length))).length : Nat) : Int) % 64 = 56 := by rw [HPl.out]; unfold zc; omega
        have HZc := Lib.hid (show zc rest.length < 64 by unfold zc; omega)
        have hn2 := HN2.out
        have hby := refBytes_any 8 (8 * N) wr (by omega) (by omega)
        rw [show ((8 * N : Nat) : Int) = 8 * (N : Int) by omega] at hby
        have HBy := Lib.hid hby
        obtain ⟨-, -, -, -, -, -, -, -, g8, -⟩ := sha_all (sha_row (Aft.get HF.out HS.out))
        clear hby
        go_wp2_with fail
        refine HBy.out.mono ?_
        rintro e w5 ⟨a5, c5, rfl, ho5, hb5⟩
        have HO5 := Lib.hid (ownsRow_below HO.out.2 (w' := w5) fun g hg => Below.block hb5 g (own_lt HO.out.2 hg).2)
        have HR5 := Lib.hid (Rd.of_own ho5)
        have HA5 := Lib.hid (show Aft w1 w5 from Aft.trans HF.out hb5)
        have HB8 := Lib.hid (show (bv (beL 8 (8 * N))).length = 8 by rw [bv_length, beL_length])
        clear ho5 hb5 g8
        go_wp2_with ((at_builtin; refine wpList_append_rd rfl _ _ 25 rfl w1.heap.size 5 (.int .u8 0) 1 Tryd.underlying25 info_byte rfl (.slice al (bv (padB rest (zc rest.length))).length cl) (.slice a5 (bv (beL 8 (8 * N))).length c5) (bv (padB rest (zc rest.length))) (bv (beL 8 (8 * N))) rfl rfl HO5.out HR5.out (bv_one _) (by have := HL.out; have := HPl.out; have := HZc.out; have := HB8.out; omega) (by have := HL.out; have := HPl.out; have := HZc.out; have := HB8.out; omega) (Below.size HA5.out) ?_; intro v6 w6 k1 k2 k3; have HO6 := Lib.hid (show w6.ownsRow w1.heap.size 5 1 v6 (bv b).length (bv b) by rw [← HPt.out, bv_append]; exact k1); have HA6 := Lib.hid (show Aft w1 w6 from (show Below w1.heap.size w1 w5 from HA5.out).grown k2 (Below.size HA5.out) (fun g hg => (own_lt HO5.out hg).1)); clear k1 k2 k3))
        have ho6 := HO6.out
        obtain ⟨a6, c6, rfl⟩ := own_shape ho6
        clear ho6 HO5 HR5 HB8 HBy HPl HSu heq
        have HS6 := Lib.hid (Aft.get HA6.out HS.out)
        have hbl := bv_length b
        rw [hbl]
        go_loopw [5] (fun v5 wx => ∃ j : Nat, 64 * j ≤ b.length ∧ v5 = .int .i64 ((64 * j : Nat) : Int) ∧ wx.heap[w.heap.size]? = some (.cells (shaArr (absorb K0 j s b) N (.slice ao (bv rest).length cap)) 37 (0, 0)) ∧ Fr (fun k => k = w.heap.size) w6 wx) (fun v _ => b.length - (intOf v).toNat)
        case atStart => exact ⟨0, by omega, rfl, HS6.out, Fr.refl _ _⟩
        case round =>
          obtain ⟨j, hj, rfl, hv, hf⟩ := hrel
          clear hbl
          have HV := Lib.hid hv
          have HFx := Lib.hid hf
          have HW := Lib.hid (show Below w.heap.size w wr from HB.out.trans ((Below.mono HA6.out (by omega)).trans (hf.below (by have := Below.size HA6.out; omega) (fun k hk => by omega))))
          clear hv hf
          have hLb := HLb.out
          by_cases hlt : 64 * j < b.length
          · have hlt' : ((64 * j : Nat) : Int) < (b.length : Int) := by omega
            have h64 : 64 * j + 64 ≤ b.length := by have := HWh.out; omega
            have hrd := (Rd.of_own HO6.out).fr HFx.out (fun g hg _ => by have := (own_lt HO6.out hg).1; omega)
            rw [bv_length] at hrd
            obtain ⟨gb, ob, hcut, hrb⟩ := cut_blk hrd h64 (64 * (j : Int)) (64 * (j : Int) + 64) (by omega) (by omega)
            have HRb := Lib.hid hrb
            have HCut := Lib.hid hcut
            have HAb := Lib.hid (absorb_blk K0 s b j)
            have HBl := Lib.hid (blk_length h64)
            clear hrd hrb hcut
            generalize blk b j = bj at *
            generalize hs1 : absorb K0 (j + 1) s b = s1 at *
            have HS1 := Lib.hid hs1
            clear hs1
            generalize absorb K0 j s b = s0 at *
            go_wp2_with fail
            refine wp_region_lexF (fun i => ([0, 0, 0, 0, 0, 0, 0, 2, 0] : List Nat).getD i 0) 9 (by kernel_rfl) (by kernel_rfl) ?_; intro wi hwi
            have HWi := Lib.hid (show Aft wr wi by rw [hwi]; exact (Below.refl _ _).drew)
            clear hwi
            refine lf_quiet rfl (by go_big_quiet_want; exact quiet_false (by assumption)) (by kernel_rfl) rfl ?_; intro Kx hKx; go_big_quiet_op; go_big_quiet_on
            refine lf_load_st rfl (by kernel_rfl) (.tmp 34) rfl w.heap.size rfl s0 N _ (Aft.get HWi.out HV.out) ?_
            simp only [Act.put, List.setIfInBounds_toArray, List.set_cons_succ, List.set_cons_zero]
            have hcut := HCut.out
            repeat (first | (refine lf_skip (by go_big_quiet_skip; exact wpQuiet_nil trivial) (by kernel_rfl) ?_; simp only [Act.put, List.setIfInBounds_toArray, List.set_cons_succ, List.set_cons_zero]) | (refine lf_quiet rfl (by go_big_quiet_want; exact quiet_false (by assumption)) (by kernel_rfl) rfl ?_; intro Kx hKx; go_big_quiet_op; go_big_quiet_on))
            clear hcut
            refine lf_eff rfl (by go_big_quiet_want; exact quiet_false (by assumption)) (by kernel_rfl) ?_; intro wl hl Kx hKx; go_wp2_with fail
            have hlw := (show Aft wr wl from Aft.trans HWi.out hl)
            refine (block_any s0 gb ob 64 (c6 - 64 * j) bj wl (TabK_fr HK.out (Fr.of_below (S := fun _ => False) (HW.out.trans (Below.mono hlw (Below.size HW.out)))) (fun h => h)) (HRb.out.grow hlw) (by rw [HBl.out]; omega)).mono ?_
            rintro e wm ⟨rfl, hm⟩
            rw [HAb.out]
            have HM := Lib.hid (show Aft wr wm from Aft.trans hlw hm)
            go_wp2_with fail
            refine ⟨hm, ?_⟩
            clear hm hl hlw
            repeat (first | (refine lf_skip (by go_big_quiet_skip; exact wpQuiet_nil trivial) (by kernel_rfl) ?_; simp only [Act.put, List.setIfInBounds_toArray, List.set_cons_succ, List.set_cons_zero]) | (refine lf_quiet rfl (by go_big_quiet_want; exact quiet_false (by assumption)) (by kernel_rfl) rfl ?_; intro Kx hKx; go_big_quiet_op; go_big_quiet_on))
            refine lf_done ?_
            intro wn1 hn1
            have HN := Lib.hid (show Aft wr wn1 from Aft.trans HM.out hn1)
            have HVn := Lib.hid (Aft.get HN.out HV.out)
            have HFn := Lib.hid (HFx.out.trans (Fr.of_below HN.out))
            clear hn1
            go_wp2_with ((refine wpList_store_st rfl (.tmp 42) (.tmp 41) rfl w.heap.size s0 s1 N _ rfl rfl HVn.out ?_; intro wp q2 q3; have HVp := Lib.hid q2.out; have HFp := Lib.hid (HFn.out.trans q3.out); clear q2 q3))
            go_roundw
            case rel => exact ⟨j + 1, by omega, by go_num, by rw [HS1.out]; exact HVp.out, HFp.out⟩
            case measure => simp [intOf]; omega
          · have hjl : j = b.length / 64 := by have := HWh.out; omega
            have hlt' : ¬ ((64 * j : Nat) : Int) < (b.length : Int) := by omega
            subst hjl
            have hkb := fun wx => refKey_any (absorb K0 (b.length / 64) s b) wx
            have hkl := HKl.out
            rw [← HFk.out] at hkb hkl
            have HKb := Lib.hid hkb
            have HXl := Lib.hid hkl
            clear hkb hkl
            generalize absorb K0 (b.length / 64) s b = s0 at *
            generalize hX : finKey K0 s N rest = X at *
            have HXe := Lib.hid hX
            clear hX
            have HZr := Lib.hid ((HFx.out.block (w.heap.size + 1) (by have := Below.size HA6.out; omega) (by omega)).trans (Aft.get HA6.out HO.out.1))
            go_wp2_with ((refine wpList_load_st rfl (.tmp 43) rfl w.heap.size s0 N _ rfl HV.out ?_))
            refine (HKb.out _).mono ?_
            rintro e w7 ⟨rfl, hb7⟩
            have HZ7 := Lib.hid (Aft.get hb7 HZr.out)
            have HA7 := Lib.hid (HW.out.trans (Below.mono hb7 (Below.size HW.out)))
            clear hb7
            go_wp2_with ((refine wpList_store_keyX rfl (.tmp 2) (.tmp 45) rfl (w.heap.size + 1) X HXl.out rfl rfl HZ7.out ?_; intro w8 q2 q3; have HK8 := Lib.hid q2.out; have HB8 := Lib.hid (q3 w.heap.size w (by omega) HA7.out); clear q2 q3))
            have hsz8 : (Tryd.prog.info? 28).map (·.size) = some (bv X).toArray.size := by rw [List.size_toArray, bv_length, HXl.out]; kernel_rfl
            refine bodyPost_ret (results_cell_tmp rfl _ _ (w.heap.size + 1) 28 (bv X).toArray (0, 0) _ rfl HK8.out Tryd.underlying28 rfl hsz8) rfl ?_
            exact ⟨by rw [HXe.out]; rfl, HB8.out⟩
  · have hs32 : (Tryd.prog.info? 28).map (·.size) = some key0.size := by kernel_rfl
    go_wp2_with ((refine wpList_store_key0 rfl (.tmp 2) (.tmp 9) rfl (w.heap.size + 1) rfl rfl HO.out ?_; intro w3 q2 q3))
    refine bodyPost_ret (results_cell_tmp rfl _ _ (w.heap.size + 1) 28 key0 (0, 0) _ rfl q2.out Tryd.underlying28 rfl hs32) rfl ?_
    exact ⟨rfl, q3 _ _ (by omega) HB.out⟩
end Go.Proofs.YtifehfcgmodmaaaDoor
/- coterieref02.Write: the document's sum, block by block, that stands in a block. -/
namespace Go.Proofs.YtifehfcgmodmaaaDoor
open Go Go.RowKit
set_option maxRecDepth 100000 in
theorem run_cut64 {ao : Option Addr} {len cap : Nat} (h : 64 ≤ cap) (wx : World) : (Instr.slice 25 (.slice ao len cap) none (some (.int .i64 64)) none).run Tryd.prog wx = .ok (.slice ao 64 cap) wx := by
  obtain ⟨iB, hiB, -⟩ := info_parts info_byte
  have := cut_to (P := Tryd.prog) (ao := ao) (len := len) (cap := cap) (n := 64) Tryd.underlying25 h wx hiB
  rw [run_sliceAt_slice wx 25 _ _ _ _ Tryd.underlying25] at this
  exact this
set_option maxRecDepth 100000 in
theorem run_drop64 {ao : Option Addr} {len cap : Nat} (h : 64 ≤ len) (wx : World) : (Instr.slice 25 (.slice ao len cap) (some (.int .i64 64)) none none).run Tryd.prog wx = .ok (.slice (if cap = 64 then ao else ao.map (·.add 64)) (len - 64) (cap - 64)) wx := by
  obtain ⟨iB, hiB, hz1, hz2, -⟩ := info_parts info_byte
  have := cut_from (P := Tryd.prog) (ao := ao) (len := len) (cap := cap) (n := 64) Tryd.underlying25 h wx hiB hz2
  rw [run_sliceAt_slice wx 25 _ _ _ _ Tryd.underlying25] at this
  exact this
/-- What is left of a text, as a slice, all of it above a block. -/
def Left (w : World) (bs : Nat) (v : Value) (n cap : Nat) (ao : Option Addr) (xs : List (BitVec 8)) : Prop :=
  v = .slice ao n cap ∧ Rd w v (bv xs) ∧ ∀ g, v.ownBlock = some g → bs + 1 < g
theorem Left.next {w : World} {bs : Nat} {v : Value} {n cap : Nat} {ao : Option Addr} {xs : List (BitVec 8)} (h : Left w bs v n cap ao xs) (h64 : 64 ≤ xs.length) :
    Left w bs (.slice (if cap = 64 then ao else ao.map (·.add 64)) (n - 64) (cap - 64)) (n - 64) (cap - 64) (if cap = 64 then ao else ao.map (·.add 64)) (xs.drop 64) := by
  obtain ⟨rfl, h1, h2⟩ := h
  refine ⟨rfl, ?_, fun g hg => h2 g ?_⟩
  · rw [bv_drop]; exact h1.from (by rw [bv_length]; exact h64)
  · cases ao with
    | none => simp [Value.ownBlock] at hg
    | some a =>
      by_cases hc : cap = 64
      · simpa [hc, Value.ownBlock] using hg
      · simp only [hc, if_false, Option.map_some, Value.ownBlock] at hg ⊢
        rw [← hg]
        unfold Addr.add
        split <;> rfl
theorem Left.head {w : World} {bs : Nat} {v : Value} {n cap : Nat} {ao : Option Addr} {xs : List (BitVec 8)} (h : Left w bs v n cap ao xs) (h64 : 64 ≤ xs.length) :
    ∃ g o, ao = some ⟨g, o, none⟩ ∧ Rd w (.slice ao 64 cap) (bv (xs.take 64)) ∧ bs + 1 < g := by
  obtain ⟨rfl, h1, h2⟩ := h
  have h3 := h1.to (n := 64) (by rw [bv_length]; exact h64)
  obtain ⟨g, o, hgo, -, -⟩ := Rd.some_of h3 (by rw [← bv_take, bv_length, List.length_take]; omega)
  refine ⟨g, o, hgo, by rw [bv_take]; exact h3, h2 g (by rw [hgo]; rfl)⟩
set_option maxRecDepth 100000 in
set_option maxHeartbeats 2000000 in
theorem refWrite_any (s : St) (N : Nat) (vr vp : Value) (rest : List (BitVec 8)) (ps : List (List (BitVec 8))) (w : World) (hK : TabK K0 0 w) (hrd : Rd w vr (bv rest)) (hp : RdAll w vp ps)
    (hN : N < 18446744073709551616) (hlen : rest.length ≤ 1099511627776) (hps : ps.flatten.length ≤ 1099511627776) :
    Calls Tryd.prog 34 #[.agg #[.int .u32 (wn s.a), .int .u32 (wn s.b), .int .u32 (wn s.c), .int .u32 (wn s.d), .int .u32 (wn s.e), .int .u32 (wn s.f), .int .u32 (wn s.g), .int .u32 (wn s.h), .int .u64 (N : Int), vr], vp] w fun e w' =>
      ∃ st N' rs er vr', (st, N', rs, er) = wrote K0 s N rest ps.flatten ∧ e = .returned (.tuple #[.agg #[.int .u32 (wn st.a), .int .u32 (wn st.b), .int .u32 (wn st.c), .int .u32 (wn st.d), .int .u32 (wn st.e), .int .u32 (wn st.f), .int .u32 (wn st.g), .int .u32 (wn st.h), .int .u64 (N' : Int), vr'], .int .i64 er]) ∧
        Rd w' vr' (bv rs) ∧ Below w.heap.size w w' := by
  have HR := Lib.hid hrd
  have HK := Lib.hid hK
  have HP := Lib.hid hp
  have HL := Lib.hid hlen
  obtain ⟨ao, cap, rfl, -, -, -, -⟩ := hrd
  obtain ⟨aop, capp, rfl, -⟩ := hp.shape
  have HC := Lib.hid (fun w => refCheck_any s N (bv rest).length cap ao w hN (by rw [bv_length]; exact hlen))
  clear hK hlen hp
  go_enter Tryd.func34, Tryd.ntmps34
  go_wp2_with fail
  refine (HC.out _).mono ?_
  rintro e w1 ⟨rfl, hb1⟩
  change Below (writeW s N (.slice ao (bv rest).length cap) w).heap.size (writeW s N (.slice ao (bv rest).length cap) w) w1 at hb1
  have hb2 := (writeW_below s N (.slice ao (bv rest).length cap) w).trans (hb1.mono (by rw [writeW_size]; omega))
  have hout1 : w1.heap[w.heap.size + 1]? = some (.cells zero10 37 (0, 0)) := (hb1.block _ (by rw [writeW_size]; omega)).trans (heap_alloc2_new w _ _)
  have h1 := (writeW_sha s N (.slice ao (bv rest).length cap) w).of_block (hb1.block w.heap.size (by rw [writeW_size]; omega))
  have HB := Lib.hid (show Below w.heap.size w w1 from hb2)
  have HO := Lib.hid hout1
  have HS := Lib.hid (sha_whole h1)
  have hlt1 : w.heap.size + 1 < w1.heap.size := heap_lt hout1
  have hs10 : (Tryd.prog.info? 37).map (·.size) = some zero10.size := by kernel_rfl
  have HP1 := Lib.hid (HP.out.below HB.out)
  clear hb1 hb2 hout1 h1
  rcases chk_cases s N (bv rest).length with hc | hc
  · obtain ⟨hN2, hmod, -⟩ := chk_ok hc
    have HMod := Lib.hid hmod
    clear hmod
    have hall := all_any (.slice aop ps.length capp) ps w1 HP1.out (by omega)
    obtain ⟨d, hd⟩ : ∃ d, d = ps.flatten := ⟨_, rfl⟩
    rw [← hd] at hall hps
    have HAll := Lib.hid hall
    have HDf := Lib.hid hd
    clear hall hd
    go_wp2_with fail
    refine HAll.out.mono ?_
    rintro e w2 ⟨a2, c2, rfl, ho2, hb2⟩
    have HA2 := Lib.hid (show Aft w1 w2 from hb2)
    have HO2 := Lib.hid ho2
    have HS2 := Lib.hid (Aft.get HA2.out HS.out)
    obtain ⟨-, -, -, -, -, -, -, -, g8, g9⟩ := sha_all (sha_row HS2.out)
    have f8 := World.rowIs.frozen (sha_row HS2.out) 8
    have hbl := bv_length d
    clear ho2 hb2
    by_cases hover : N + d.length ≤ 1099511627776
    · obtain ⟨M, hM⟩ : ∃ M, M = N + d.length := ⟨_, rfl⟩
      have hNN : (N : Int) + ((bv d).length : Nat) = (M : Int) := by rw [hbl, hM]; rfl
      have hover' : ¬ (1099511627776 : Int) < (M : Int) := by omega
      have hE : (shaSt K0 s (rest ++ d), M, restOf (rest ++ d), (0 : Int)) = wrote K0 s N rest ps.flatten := by rw [← HDf.out]; unfold wrote; rw [if_pos hc, if_pos hover, hM]
      have HE := Lib.hid hE
      have HM := Lib.hid (show M ≤ 1099511627776 by omega)
      have HBd := Lib.hid hbl
      have hdl : (bv d).length ≤ 1099511627776 := by omega
      clear hE hM hover hbl
      go_wp2_with fail
      obtain ⟨w3, hw3⟩ : ∃ w3, w3 = w2.setCell ⟨w.heap.size, 8, none⟩ (.int .u64 (M : Int)) := ⟨_, rfl⟩
      rw [← hw3]
      have hHS3 : w3.heap[w.heap.size]? = some (.cells (shaArr s M (.slice ao (bv rest).length cap)) 37 (0, 0)) := by
        rw [hw3, heap_setCell_same w2 w.heap.size 8 _ _ _ HS2.out]; rfl
      have hB3 : Below w.heap.size w w3 := by rw [hw3]; exact (HB.out.trans (Below.mono HA2.out (by omega))).setCell (Nat.le_refl _) _
      have hO3 : w3.heap[w.heap.size + 1]? = some (.cells zero10 37 (0, 0)) := by
        rw [hw3, Below.heap_setCell _ _ _ _ (by simp)]; exact Aft.get HA2.out HO.out
      have hD3 : Rd w3 (.slice a2 (bv d).length c2) (bv d) := by
        rw [hw3]; exact (Rd.of_own HO2.out).setCell (fun g hg _ => by have := (own_lt HO2.out hg).1; simp only; omega) _
      have hsz3 : w.heap.size + 1 < w3.heap.size := heap_lt hO3
      have HS3 := Lib.hid hHS3
      have HB3 := Lib.hid hB3
      have HO3 := Lib.hid hO3
      have HD3 := Lib.hid hD3
      clear hHS3 hB3 hO3 hD3 hw3 g8 g9 f8
      refine (copy_any _ rest w3 (HR.out.grow HB3.out) (by have := HL.out; omega)).mono ?_
      rintro e w4 ⟨a4, c4, rfl, ho4, hb4⟩
      have HO4 := Lib.hid ho4
      have HA4 := Lib.hid (show Aft w3 w4 from hb4)
      have HD4 := Lib.hid (HD3.out.grow hb4)
      have HLd := Lib.hid hps
      have HBl := Lib.hid (bv_length rest)
      clear ho4 hb4 hNN hover' hps hdl
      go_wp2_with ((at_builtin; refine wpList_append_rd rfl _ _ 25 rfl w3.heap.size 5 (.int .u8 0) 1 Tryd.underlying25 info_byte rfl (.slice a4 (bv rest).length c4) (.slice a2 (bv d).length c2) (bv rest) (bv d) rfl rfl HO4.out HD4.out (bv_one _) (by have := HL.out; have := HLd.out; have := HBl.out; have := HBd.out; omega) (by have := HL.out; have := HLd.out; have := HBl.out; have := HBd.out; omega) (Below.size HA4.out) ?_; intro v5 w5 k1 k2 k3; have HO5 := Lib.hid (show w5.ownsRow w3.heap.size 5 1 v5 (bv (rest ++ d)).length (bv (rest ++ d)) by rw [bv_append]; exact k1); have HA5 := Lib.hid (show Aft w3 w5 from (show Below w3.heap.size w3 w4 from HA4.out).grown k2 (Below.size HA4.out) (fun g hg => (own_lt HO4.out hg).1)); clear k1 k2 k3))
      have HS5 := Lib.hid (Aft.get HA5.out HS3.out)
      have HO5z := Lib.hid (Aft.get HA5.out HO3.out)
      have hbl : (rest ++ d).length ≤ 2199023255552 := by have := HL.out; have := HLd.out; rw [List.length_append]; omega
      generalize rest ++ d = b at *
      have ho5 := HO5.out
      obtain ⟨a5, c5, rfl⟩ := own_shape ho5
      have HLf := Lib.hid (show Left w5 w.heap.size (.slice a5 (bv b).length c5) (bv b).length c5 a5 b from ⟨rfl, Rd.of_own ho5, fun g hg => by have := (own_lt ho5 hg).1; omega⟩)
      have HBb := Lib.hid hbl
      clear ho5 hbl
      go_loopw [6] (fun v6 wx => ∃ j : Nat, 64 * j ≤ b.length ∧ (∃ n cx ax, Left w5 w.heap.size v6 n cx ax (b.drop (64 * j))) ∧ wx.heap[w.heap.size]? = some (.cells (shaArr (absorb K0 j s b) M (.slice ao (bv rest).length cap)) 37 (0, 0)) ∧ Fr (fun k => k = w.heap.size) w5 wx) (fun v _ => lenV v)
      case atStart => exact ⟨0, by omega, ⟨_, _, _, HLf.out⟩, HS5.out, Fr.refl _ _⟩
      case round =>
        obtain ⟨j, hj, ⟨n, cx, ax, hlf⟩, hv, hf⟩ := hrel
        obtain rfl := hlf.1
        have hs := hlf.2.1.sl
        rw [bv_length, List.length_drop] at hs
        have HLj := Lib.hid hlf
        have HV := Lib.hid hv
        have HFx := Lib.hid hf
        have HW := Lib.hid (show Below w.heap.size w wr from HB3.out.trans ((Below.mono HA5.out (by omega)).trans (hf.below (by have := Below.size HA5.out; omega) (fun k hk => by omega))))
        clear hlf hv hf
        obtain ⟨hs1, hs2, hs3⟩ := hs
        have HSn := Lib.hid hs1
        clear hs1
        by_cases hlt : 64 ≤ n
        · have hlt' : (64 : Int) ≤ (n : Int) := by omega
          have h64 : 64 ≤ (b.drop (64 * j)).length := by rw [List.length_drop, ← HSn.out]; exact hlt
          obtain ⟨gb, ob, rfl, hrb, hgb⟩ := HLj.out.head h64
          have HNx := Lib.hid (HLj.out.next h64)
          have HRb := Lib.hid (show Rd wr (.slice (some ⟨gb, ob, none⟩) 64 cx) (bv (blk b j)) from hrb.fr HFx.out (fun g hg _ => by simp only [Value.ownBlock, Option.some.injEq] at hg; omega))
          have HCut := Lib.hid (fun wx => run_cut64 (ao := some ⟨gb, ob, none⟩) (len := n) (cap := cx) (by have := HSn.out; omega) wx)
          have HDr := Lib.hid (fun wx => run_drop64 (ao := some ⟨gb, ob, none⟩) (len := n) (cap := cx) hlt wx)
          have HAb := Lib.hid (absorb_blk K0 s b j)
          have HBlk := Lib.hid (blk_length (b := b) (j := j) (by have := HSn.out; omega))
          have HDd := Lib.hid (show (b.drop (64 * j)).drop 64 = b.drop (64 * (j + 1)) by rw [List.drop_drop]; congr 1)
          have HJl := Lib.hid (show 64 * (j + 1) ≤ b.length by have := HSn.out; omega)
          clear hrb h64
          generalize blk b j = bj at *
          generalize hs1 : absorb K0 (j + 1) s b = s1 at *
          have HS1 := Lib.hid hs1
          clear hs1
          generalize absorb K0 j s b = s0 at *
          go_wp2_with fail
          refine wp_region_lexF (fun i => ([0, 0, 0, 0, 2, 0] : List Nat).getD i 0) 6 (by kernel_rfl) (by kernel_rfl) ?_; intro wi hwi
          have HWi := Lib.hid (show Aft wr wi by rw [hwi]; exact (Below.refl _ _).drew)
          clear hwi
          refine lf_quiet rfl (by go_big_quiet_want; exact quiet_false (by assumption)) (by kernel_rfl) rfl ?_; intro Kx hKx; go_big_quiet_op; go_big_quiet_on
          refine lf_load_st rfl (by kernel_rfl) (.tmp 36) rfl w.heap.size rfl s0 M _ (Aft.get HWi.out HV.out) ?_
          simp only [Act.put, List.setIfInBounds_toArray, List.set_cons_succ, List.set_cons_zero]
          have hcut := HCut.out
          repeat (first | (refine lf_skip (by go_big_quiet_skip; exact wpQuiet_nil trivial) (by kernel_rfl) ?_; simp only [Act.put, List.setIfInBounds_toArray, List.set_cons_succ, List.set_cons_zero]) | (refine lf_quiet rfl (by go_big_quiet_want; exact quiet_false (by assumption)) (by kernel_rfl) rfl ?_; intro Kx hKx; go_big_quiet_op; go_big_quiet_on))
          clear hcut
          refine lf_eff rfl (by go_big_quiet_want; exact quiet_false (by assumption)) (by kernel_rfl) ?_; intro wl hl Kx hKx; go_wp2_with fail
          have hlw := (show Aft wr wl from Aft.trans HWi.out hl)
          refine (block_any s0 gb ob 64 cx bj wl (TabK_fr HK.out (Fr.of_below (S := fun _ => False) (HW.out.trans (Below.mono hlw (Below.size HW.out)))) (fun h => h)) (HRb.out.grow hlw) (by rw [HBlk.out]; omega)).mono ?_
          rintro e wm ⟨rfl, hm⟩
          rw [HAb.out]
          have HM := Lib.hid (show Aft wr wm from Aft.trans hlw hm)
          go_wp2_with fail
          refine ⟨hm, ?_⟩
          clear hm hl hlw
          repeat (first | (refine lf_skip (by go_big_quiet_skip; exact wpQuiet_nil trivial) (by kernel_rfl) ?_; simp only [Act.put, List.setIfInBounds_toArray, List.set_cons_succ, List.set_cons_zero]) | (refine lf_quiet rfl (by go_big_quiet_want; exact quiet_false (by assumption)) (by kernel_rfl) rfl ?_; intro Kx hKx; go_big_quiet_op; go_big_quiet_on))
          refine lf_done ?_
          intro wn1 hn1
          have HN := Lib.hid (show Aft wr wn1 from Aft.trans HM.out hn1)
          have HVn := Lib.hid (Aft.get HN.out HV.out)
          have HFn := Lib.hid (HFx.out.trans (Fr.of_below HN.out))
          clear hn1
          have hdr := HDr.out
          go_wp2_with ((refine wpList_store_st rfl (.tmp 41) (.tmp 40) rfl w.heap.size s0 s1 M _ rfl rfl HVn.out ?_; intro wp q2 q3; have HVp := Lib.hid q2.out; have HFp := Lib.hid (HFn.out.trans q3.out); clear q2 q3))
          go_roundw
          case rel => exact ⟨j + 1, HJl.out, ⟨_, _, _, by rw [← HDd.out]; exact HNx.out⟩, by rw [HS1.out]; exact HVp.out, HFp.out⟩
          case measure => simp [lenV]; omega
        · have hjl : j = b.length / 64 := by have := HSn.out; omega
          have hlt' : ¬ (64 : Int) ≤ (n : Int) := by omega
          subst hjl
          have HRv := Lib.hid (show Rd wr (.slice ax n cx) (bv (restOf b)) from HLj.out.2.1.fr HFx.out (fun g hg _ => by have := HLj.out.2.2 g hg; omega))
          have HOw := Lib.hid (show ∀ g, (Value.slice ax n cx).ownBlock = some g → w.heap.size + 1 < g from HLj.out.2.2)
          have HE2 := Lib.hid (show (absorb K0 (b.length / 64) s b, M, restOf b, (0 : Int)) = wrote K0 s N rest ps.flatten from HE.out)
          clear HE
          generalize absorb K0 (b.length / 64) s b = st at *
          generalize restOf b = rs at *
          obtain ⟨g0, g1, g2, g3, g4, g5, g6, g7, g8, g9⟩ := sha_all (sha_row HV.out)
          have f9 := World.rowIs.frozen (sha_row HV.out) 9
          have HOf := Lib.hid ((HFx.out.block (w.heap.size + 1) (heap_lt HO5z.out) (by omega)).trans HO5z.out)
          have HZ := Lib.hid (show (wr.setCell ⟨w.heap.size, 9, none⟩ (.slice ax n cx)).heap[w.heap.size + 1]? = some (.cells zero10 37 (0, 0)) by rw [Below.heap_setCell _ _ _ _ (by simp)]; exact HOf.out)
          have HBz := Lib.hid (show Below w.heap.size w (wr.setCell ⟨w.heap.size, 9, none⟩ (.slice ax n cx)) from HW.out.setCell (Nat.le_refl _) _)
          have HRz := Lib.hid (show Rd (wr.setCell ⟨w.heap.size, 9, none⟩ (.slice ax n cx)) (.slice ax n cx) (bv rs) from HRv.out.setCell (fun g hg _ => by have := HOw.out g hg; simp only; omega) _)
          have HOs := Lib.hid (show ∀ g, (Value.slice ax n cx).ownBlock = some g → bv rs ≠ [] → g ≠ w.heap.size + 1 from fun g hg _ => by have := HOw.out g hg; omega)
          go_wp2_with ((refine wpList_store_sha rfl (.tmp 4) (.tmp 46) rfl (w.heap.size + 1) #[.int .u32 (wn st.a), .int .u32 (wn st.b), .int .u32 (wn st.c), .int .u32 (wn st.d), .int .u32 (wn st.e), .int .u32 (wn st.f), .int .u32 (wn st.g), .int .u32 (wn st.h), .int .u64 (M : Int), .slice ax n cx] rfl rfl rfl (by kernel_rfl) zero10 rfl HZ.out ?_; intro w9 q2 q3 q4))
          refine bodyPost_ret (results_cell_tmp rfl _ _ (w.heap.size + 1) 37 #[.int .u32 (wn st.a), .int .u32 (wn st.b), .int .u32 (wn st.c), .int .u32 (wn st.d), .int .u32 (wn st.e), .int .u32 (wn st.f), .int .u32 (wn st.g), .int .u32 (wn st.h), .int .u64 (M : Int), .slice ax n cx] (0, 0) _ rfl q2.out Tryd.underlying37 rfl hs10) rfl ?_
          exact ⟨st, M, rs, 0, HE2.out, .slice ax n cx, rfl, HRz.out.keep fun g hg hx _ => q4.out g (HOs.out g hg hx), q3 _ _ (by omega) HBz.out⟩
    · have hover' : (1099511627776 : Int) < (N : Int) + ((bv d).length : Nat) := by omega
      have hw : (zeroSt, 0, [], (4 : Int)) = wrote K0 s N rest ps.flatten := by rw [← HDf.out]; unfold wrote; rw [if_pos hc, if_neg hover]
      have HBx := Lib.hid (show Below w.heap.size w w2 from HB.out.trans (Below.mono HA2.out (by omega)))
      have HOx := Lib.hid (Aft.get HA2.out HO.out)
      clear hover
      go_wp2_with ((refine wpList_store_sha rfl (.tmp 4) (.tmp 20) rfl (w.heap.size + 1) zero10 rfl rfl rfl (by kernel_rfl) zero10 rfl HOx.out ?_; intro w3 q2 q3 _))
      refine bodyPost_ret (results_cell_tmp rfl _ _ (w.heap.size + 1) 37 zero10 (0, 0) _ rfl q2.out Tryd.underlying37 rfl hs10) rfl ?_
      exact ⟨zeroSt, 0, [], 4, .slice none 0 0, hw, rfl, Rd.nil _, q3 _ _ (by omega) HBx.out⟩
  · have hw : (zeroSt, 0, [], (1 : Int)) = wrote K0 s N rest ps.flatten := by unfold wrote; rw [if_neg (by rw [hc]; decide)]
    go_wp2_with ((refine wpList_store_sha rfl (.tmp 4) (.tmp 10) rfl (w.heap.size + 1) zero10 rfl rfl rfl (by kernel_rfl) zero10 rfl HO.out ?_; intro w3 q2 q3 _))
    refine bodyPost_ret (results_cell_tmp rfl _ _ (w.heap.size + 1) 37 zero10 (0, 0) _ rfl q2.out Tryd.underlying37 rfl hs10) rfl ?_
    exact ⟨zeroSt, 0, [], 1, .slice none 0 0, hw, rfl, Rd.nil _, q3 _ _ (by omega) HB.out⟩
end Go.Proofs.YtifehfcgmodmaaaDoor
/- coterieref03.padded: a key of 64 bytes, each xor a number. -/
namespace Go.Proofs.YtifehfcgmodmaaaDoor
open Go Go.RowKit
/-- A key's byte. -/
def kb (xs : List (BitVec 8)) (i : Nat) : BitVec 8 := xs.getD i 0
def pdRow (k : List (BitVec 8)) (b : BitVec 8) (i : Nat) (j : Nat) : Value := .int .u8 (bn (if j < i then k.getD j 0 ^^^ b else 0))
theorem pd_start {w : World} {g t : Nat} (k : List (BitVec 8)) (b : BitVec 8) (h : w.heap[g]? = some (.cells (List.replicate 64 (Value.int .u8 0)).toArray t (0, 0))) : w.rowIs g t 64 (pdRow k b 0) := by
  refine ⟨_, h, by simp, fun i hi => ?_⟩
  unfold pdRow
  rw [if_neg (by omega), List.getElem?_toArray, List.getElem?_replicate, if_pos hi]
  rfl
theorem pd_step (k : List (BitVec 8)) (b : BitVec 8) (i : Nat) (h : i < k.length) : ∀ j, j < 64 → (if j = i then Value.int .u8 (bn (b ^^^ kb k i)) else if j = i then .int .u8 (bn b) else pdRow k b i j) = pdRow k b (i + 1) j := by
  intro j _
  unfold pdRow
  by_cases hj : j = i
  · subst hj
    rw [if_pos rfl, if_pos (by omega), BitVec.xor_comm]; rfl
  · rw [if_neg hj, if_neg hj]
    by_cases h2 : j < i
    · rw [if_pos h2, if_pos (by omega)]
    · rw [if_neg h2, if_neg (by omega)]
theorem pd_step0 (k : List (BitVec 8)) (b : BitVec 8) (i : Nat) (h : k.length ≤ i) : ∀ j, j < 64 → (if j = i then Value.int .u8 (bn b) else pdRow k b i j) = pdRow k b (i + 1) j := by
  intro j _
  unfold pdRow
  by_cases hj : j = i
  · subst hj
    rw [if_pos rfl, if_pos (by omega)]
    simp [List.getD, List.getElem?_eq_none h]
  · rw [if_neg hj]
    by_cases h2 : j < i
    · rw [if_pos h2, if_pos (by omega)]
    · rw [if_neg h2, if_neg (by omega)]
theorem pd_end (k : List (BitVec 8)) (b : BitVec 8) : ∀ j, j < 64 → pdRow k b 64 j = heldRow k b 64 j := by
  intro j hj
  unfold pdRow heldRow
  rw [if_pos hj, if_pos hj]
attribute [local go_sem] bn_xor
set_option maxRecDepth 100000 in
set_option maxHeartbeats 1000000 in
theorem padded3_any (v : Value) (ks : List (BitVec 8)) (b : BitVec 8) (w : World) (hK : TabK K0 0 w) (hrd : Rd w v (bv ks)) (hlen : ks.length ≤ 1099511627776) :
    Calls Tryd.prog 68 #[v, .int .u8 (bn b)] w (RetSl 64 fun v' w' => w'.ownsRow w.heap.size 5 1 v' 64 (bv (heldB (key64 K0 ks) b)) ∧ Below w.heap.size w w') := by
  have HK := Lib.hid hK
  have HR := Lib.hid hrd
  obtain ⟨ao, cap, rfl, -, -, -, -⟩ := hrd
  clear hK
  obtain ⟨iB, hiB, hz1, hz2, hz3⟩ := info_parts info_byte
  have hmk : ∀ w, (Instr.makeSlice 25 (.int .i64 64) (.int .i64 64)).run Tryd.prog w = .ok (.slice (some ⟨w.heap.size, 0, none⟩) 64 64) (w.alloc (.cells zRow 5)) := fun w => by
    have := run_make (P := Tryd.prog) w 25 5 iB (.int .u8 0) Tryd.underlying25 hiB hz1 .i64 .i64 64 64 (by omega) (by omega) (by rw [hz3]; omega) (by omega)
    rw [this, hz2]; rfl
  clear hz1 hz2 hz3 hiB
  by_cases hl : ks.length ≤ 64
  · have hl' : ¬ (64 : Int) < ((bv ks).length : Nat) := by rw [bv_length]; omega
    have hkey : key64 K0 ks = ks := if_pos hl
    rw [hkey]
    clear hkey
    go_enter Tryd.func68, Tryd.ntmps68
    have HZ := Lib.hid (show (w.alloc (.cells zRow 5)).heap[w.heap.size]? = some (.cells (List.replicate 64 (Value.int .u8 0)).toArray 5 (0, 0)) by rw [heap_alloc_new, zRow_arr])
    have HKL := Lib.hid (bv_length ks)
    have HRow := Lib.hid (pd_start ks b HZ.out)
    have HBm := Lib.hid (show Aft w (w.alloc (.cells zRow 5)) from Aft.alloc _ _)
    have HLk := Lib.hid hl
    clear hl
    go_wp2_with fail
    go_loopw [18] (fun v18 wr => ∃ i : Nat, i ≤ 64 ∧ v18 = .int .i64 i ∧ wr.rowIs w.heap.size 5 64 (pdRow ks b i) ∧ Aft w wr) (fun v _ => 64 - (intOf v).toNat)
    case atStart => exact ⟨0, by omega, rfl, HRow.out, HBm.out⟩
    case round =>
      obtain ⟨i, hi, rfl, hrow, hbw⟩ := hrel
      have HBw := Lib.hid hbw
      have HRo := Lib.hid hrow
      clear hbw hrow
      by_cases hlt : i < 64
      · have hlt' : (i : Int) < 64 := by omega
        have c0 := World.rowIs.cell HRo.out (i := i) hlt
        have fz := World.rowIs.frozen HRo.out i
        have HRo1 := Lib.hid (World.rowIs.set HRo.out i (.int .u8 (bn b)))
        have HB1 := Lib.hid (aft_set HBw.out (p := ⟨w.heap.size, i, none⟩) (Nat.le_refl _) (.int .u8 (bn b)))
        obtain ⟨w1, hw1⟩ : ∃ w1, w1 = wr.setCell ⟨w.heap.size, i, none⟩ (.int .u8 (bn b)) := ⟨_, rfl⟩
        rw [← hw1] at HRo1 HB1
        by_cases hin : i < ks.length
        · have hin' : (i : Int) < ((bv ks).length : Nat) := by rw [bv_length]; omega
          obtain ⟨ga, oa, rfl, -, hca⟩ := HR.out.some_of (by rw [bv_length]; omega)
          have hRA := Lib.hid (HR.out.grow HB1.out)
          go_wp2_with fail
          rw [← hw1]
          have HSt := Lib.hid (pd_step ks b i hin)
          have c1 := World.rowIs.cell HRo1.out (i := i) hlt
          simp only [if_true] at c1
          have HC1 := Lib.hid c1
          clear c1
          refine wp_region_lexF (fun i => ([] : List Nat).getD i 0) 10 (by kernel_rfl) (by kernel_rfl) ?_; intro wi hwi
          have HWi := Lib.hid (show Aft w1 wi by rw [hwi]; exact (Below.refl _ _).drew)
          have HBi := Lib.hid (show Below w.heap.size w wi by rw [hwi]; exact HB1.out.drew)
          have HRi := Lib.hid (show wi.rowIs w.heap.size 5 64 _ by rw [hwi]; exact HRo1.out)
          clear hwi
          have cA := fun u : Later wi.heap.size wi => (show u.w.cell? ⟨ga, oa + i, none⟩ = some (.int .u8 (bn (kb ks i))) from (hRA.out.grow (Aft.trans HWi.out u.h)).cell_at hin)
          have cB := fun u : Later wi.heap.size wi => (show u.w.cell? ⟨w.heap.size, i, none⟩ = some (.int .u8 (bn b)) from (Below.cell u.h (p := ⟨w.heap.size, i, none⟩) HRi.out.lt).trans ((World.rowIs.cell HRi.out (i := i) hlt).trans (by simp)))
          repeat (first | (refine lf_skip (by go_big_quiet_skip; exact wpQuiet_nil trivial) (by kernel_rfl) ?_; simp only [Act.put, List.setIfInBounds_toArray, List.set_cons_succ, List.set_cons_zero]) | (refine lf_quiet rfl (by go_big_quiet_want; exact quiet_false (by assumption)) (by kernel_rfl) rfl ?_; intro Kx hKx; go_big_quiet_op; go_big_quiet_on))
          refine lf_done ?_
          intro wj hj
          have HRj := Lib.hid (HRi.out.of_block (Below.block hj _ HRi.out.lt))
          have HJ := Lib.hid (show Below w.heap.size w wj from HBi.out.trans (Below.mono hj (Below.size HBi.out)))
          have cj := World.rowIs.cell HRj.out (i := i) hlt
          have fj := World.rowIs.frozen HRj.out i
          simp only [if_true] at cj
          clear hj
          go_wp2_with fail
          go_roundw
          case rel => exact ⟨i + 1, by omega, by go_num, (World.rowIs.set HRj.out i _).congr HSt.out, aft_set HJ.out (Nat.le_refl _) _⟩
          case measure => simp [intOf]; omega
        · have hin' : ¬ (i : Int) < ((bv ks).length : Nat) := by rw [bv_length]; omega
          have HSt := Lib.hid (pd_step0 ks b i (by omega))
          go_wp2_with fail
          rw [← hw1]
          go_roundw
          case rel => exact ⟨i + 1, by omega, by go_num, HRo1.out.congr HSt.out, HB1.out⟩
          case measure => simp [intOf]; omega
      · obtain rfl : i = 64 := by omega
        have hlt' : ¬ ((64 : Nat) : Int) < 64 := by omega
        go_wp2_with fail
        go_ret
        exact ⟨_, _, rfl, held_end ks b (Nat.le_refl _) (HRo.out.congr (pd_end ks b)), HBw.out⟩
  · have hl' : (64 : Int) < ((bv ks).length : Nat) := by rw [bv_length]; omega
    have hkey : key64 K0 ks = digest K0 ks := if_neg hl
    have hxl := digest_length K0 ks
    rw [hkey]
    generalize hX : digest K0 ks = X at hxl ⊢
    have HX := Lib.hid hX
    clear hkey hX
    go_enter Tryd.func68, Tryd.ntmps68
    go_wp2_with fail
    have hb1 : Aft w (w.alloc (.cells #[.slice ao (bv ks).length cap] 25)) := Aft.alloc _ _
    refine (refSum_any _ [ks] _ (TabK_fr HK.out (Fr.of_below (S := fun _ => False) hb1) (fun h => h)) (RdAll.one w _ ks _ HR.out) (by simp; omega)).mono ?_
    rintro e w3 ⟨rfl, hb3⟩
    rw [show ([ks] : List (List (BitVec 8))).flatten = ks by simp, HX.out]
    have HXL := Lib.hid hxl
    have HB3 := Lib.hid (show Below w.heap.size w w3 from Aft.trans hb1 hb3)
    have HS3 := Lib.hid (heap_alloc_new w3 (.cells key0 28))
    have HXb := Lib.hid (show (bv X).length = 32 by rw [bv_length]; exact hxl)
    clear hxl hb1 hb3
    go_wp2_with ((refine wpList_store_keyX rfl (.tmp 5) (.tmp 13) rfl w3.heap.size X HXL.out rfl rfl HS3.out ?_; intro wk q2 q3; have HBk := Lib.hid (show Aft w wk from q3 w.heap.size w HB3.out.size (HB3.out.alloc HB3.out.size _)); have HRk := Lib.hid (Rd.of_key q2.out HXL.out); have HZ := Lib.hid (show (wk.alloc (.cells zRow 5)).heap[wk.heap.size]? = some (.cells (List.replicate 64 (Value.int .u8 0)).toArray 5 (0, 0)) by rw [heap_alloc_new, zRow_arr]); have HBm := Lib.hid (show Aft w (wk.alloc (.cells zRow 5)) from Aft.trans HBk.out (Aft.alloc _ _)); have HRz := Lib.hid (HRk.out.grow (Aft.alloc wk (.cells zRow 5))); have HRow := Lib.hid (pd_start X b HZ.out); have HWk := Lib.hid (show Aft wk (wk.alloc (.cells zRow 5)) from Aft.alloc _ _); clear q2 q3))
    go_loopw [18] (fun v18 wr => ∃ i : Nat, i ≤ 64 ∧ v18 = .int .i64 i ∧ wr.rowIs wk.heap.size 5 64 (pdRow X b i) ∧ Aft wk wr) (fun v _ => 64 - (intOf v).toNat)
    case atStart => exact ⟨0, by omega, rfl, HRow.out, HWk.out⟩
    case round =>
      obtain ⟨i, hi, rfl, hrow, hbw⟩ := hrel
      have HBw := Lib.hid hbw
      have HRo := Lib.hid hrow
      clear hbw hrow
      by_cases hlt : i < 64
      · have hlt' : (i : Int) < 64 := by omega
        have c0 := World.rowIs.cell HRo.out (i := i) hlt
        have fz := World.rowIs.frozen HRo.out i
        have HRo1 := Lib.hid (World.rowIs.set HRo.out i (.int .u8 (bn b)))
        have HB1 := Lib.hid (aft_set HBw.out (p := ⟨wk.heap.size, i, none⟩) (Nat.le_refl _) (.int .u8 (bn b)))
        obtain ⟨w1, hw1⟩ : ∃ w1, w1 = wr.setCell ⟨wk.heap.size, i, none⟩ (.int .u8 (bn b)) := ⟨_, rfl⟩
        rw [← hw1] at HRo1 HB1
        by_cases hin : i < X.length
        · have hin' : (i : Int) < 32 := by have := HXL.out; omega
          have hRA := Lib.hid (HRk.out.grow HB1.out)
          go_wp2_with fail
          rw [← hw1]
          have HSt := Lib.hid (pd_step X b i hin)
          have c1 := World.rowIs.cell HRo1.out (i := i) hlt
          simp only [if_true] at c1
          have HC1 := Lib.hid c1
          clear c1
          refine wp_region_lexF (fun i => ([] : List Nat).getD i 0) 10 (by kernel_rfl) (by kernel_rfl) ?_; intro wi hwi
          have HWi := Lib.hid (show Aft w1 wi by rw [hwi]; exact (Below.refl _ _).drew)
          have HBi := Lib.hid (show Below wk.heap.size wk wi by rw [hwi]; exact HB1.out.drew)
          have HRi := Lib.hid (show wi.rowIs wk.heap.size 5 64 _ by rw [hwi]; exact HRo1.out)
          clear hwi
          have cA := fun u : Later wi.heap.size wi => (show u.w.cell? ⟨w3.heap.size, i, none⟩ = some (.int .u8 (bn (kb X i))) by have h := (hRA.out.grow (Aft.trans HWi.out u.h)).cell_at hin; rw [Nat.zero_add] at h; exact h)
          have cB := fun u : Later wi.heap.size wi => (show u.w.cell? ⟨wk.heap.size, i, none⟩ = some (.int .u8 (bn b)) from (Below.cell u.h (p := ⟨wk.heap.size, i, none⟩) HRi.out.lt).trans ((World.rowIs.cell HRi.out (i := i) hlt).trans (by simp)))
          repeat (first | (refine lf_skip (by go_big_quiet_skip; exact wpQuiet_nil trivial) (by kernel_rfl) ?_; simp only [Act.put, List.setIfInBounds_toArray, List.set_cons_succ, List.set_cons_zero]) | (refine lf_quiet rfl (by go_big_quiet_want; exact quiet_false (by assumption)) (by kernel_rfl) rfl ?_; intro Kx hKx; go_big_quiet_op; go_big_quiet_on))
          refine lf_done ?_
          intro wj hj
          have HRj := Lib.hid (HRi.out.of_block (Below.block hj _ HRi.out.lt))
          have HJ := Lib.hid (show Below wk.heap.size wk wj from HBi.out.trans (Below.mono hj (Below.size HBi.out)))
          have cj := World.rowIs.cell HRj.out (i := i) hlt
          have fj := World.rowIs.frozen HRj.out i
          simp only [if_true] at cj
          clear hj
          go_wp2_with fail
          go_roundw
          case rel => exact ⟨i + 1, by omega, by go_num, (World.rowIs.set HRj.out i _).congr HSt.out, aft_set HJ.out (Nat.le_refl _) _⟩
          case measure => simp [intOf]; omega
        · have hin' : ¬ (i : Int) < 32 := by have := HXL.out; omega
          have HSt := Lib.hid (pd_step0 X b i (by omega))
          go_wp2_with fail
          rw [← hw1]
          go_roundw
          case rel => exact ⟨i + 1, by omega, by go_num, HRo1.out.congr HSt.out, HB1.out⟩
          case measure => simp [intOf]; omega
      · obtain rfl : i = 64 := by omega
        have hlt' : ¬ ((64 : Nat) : Int) < 64 := by omega
        go_wp2_with fail
        go_ret
        exact ⟨_, _, rfl, held_end X b (Below.size HBk.out) (HRo.out.congr (pd_end X b)), Aft.trans HBk.out HBw.out⟩
end Go.Proofs.YtifehfcgmodmaaaDoor
/- coterieref03.Mac, and Extract: the document's sum with a key. -/
namespace Go.Proofs.YtifehfcgmodmaaaDoor
open Go Go.RowKit
set_option maxRecDepth 100000 in
set_option maxHeartbeats 2000000 in
theorem refMac_any (vk vp : Value) (k : List (BitVec 8)) (ps : List (List (BitVec 8))) (w : World) (hK : TabK K0 0 w) (hrk : Rd w vk (bv k)) (hrp : RdAll w vp ps)
    (hk : k.length ≤ 1099511627776) (hd : ps.flatten.length ≤ 1000000000000) :
    Calls Tryd.prog 31 #[vk, vp] w fun e w' => e = .returned (.agg (bv (macOf K0 k ps.flatten)).toArray) ∧ Below w.heap.size w w' := by
  have HK := Lib.hid hK
  have HR := Lib.hid hrk
  have HP := Lib.hid hrp
  have HD := Lib.hid hd
  obtain ⟨aok, capk, rfl, -, -, -, -⟩ := hrk
  obtain ⟨aop, capp, rfl, -⟩ := hrp.shape
  clear hK hrp hd
  go_enter Tryd.func31, Tryd.ntmps31
  have hba : Aft w (w.alloc (.cells key0 28)) := Aft.alloc _ _
  have hh := padded3_any (.slice aok (bv k).length capk) k 54 (w.alloc (.cells key0 28)) (TabK_fr HK.out (Fr.of_below (S := fun _ => False) hba) (fun h => h)) (HR.out.grow hba) hk
  rw [← b54] at hh
  have HH := Lib.hid hh
  clear hh hba
  go_wp2_with fail
  refine HH.out.mono ?_
  rintro e w2 ⟨a2, c2, rfl, ho2, hb2⟩
  have HR4 := Lib.hid ((Below.block hb2 w.heap.size (by rw [World.size_alloc]; omega)).trans (heap_alloc_new w (.cells key0 28)))
  have HB2 := Lib.hid (show Aft w w2 from Aft.trans (Aft.alloc w _) hb2)
  have hRd2 := Rd.of_own ho2
  have hl2 := heldB_length (key64 K0 k) 54
  generalize hI : heldB (key64 K0 k) 54 = I at ho2 hRd2 hl2
  have HI := Lib.hid hI
  have HRd2 := Lib.hid (show Rd w2 (.slice a2 64 c2) (bv I) from hRd2)
  have HL2 := Lib.hid hl2
  clear hI hRd2 hl2 ho2 hb2
  have hall := all_any (.slice aop ps.length capp) ps w2 (HP.out.below HB2.out) (by have := HD.out; omega)
  obtain ⟨d, hdf⟩ : ∃ d, d = ps.flatten := ⟨_, rfl⟩
  rw [← hdf] at hall HD
  have HAll := Lib.hid hall
  have HDf := Lib.hid hdf
  clear hall hdf
  go_wp2_with fail
  refine HAll.out.mono ?_
  rintro e w3 ⟨a3, c3, rfl, ho3, hb3⟩
  have HB3 := Lib.hid (show Aft w2 w3 from hb3)
  have HAL := Lib.hid (RdAll.two (w := w3.alloc (.cells #[.slice a2 64 c2, .slice a3 (bv d).length c3] 25)) (heap_alloc_new w3 _) (HRd2.out.grow (Aft.trans hb3 (Aft.alloc w3 _))) ((Rd.of_own ho3).grow (Aft.alloc w3 _)))
  have HW3 := Lib.hid (show Below w.heap.size w (w3.alloc (.cells #[.slice a2 64 c2, .slice a3 (bv d).length c3] 25)) from Aft.trans HB2.out (Aft.trans HB3.out (Aft.alloc w3 _)))
  have HA3 := Lib.hid (show Aft w2 (w3.alloc (.cells #[.slice a2 64 c2, .slice a3 (bv d).length c3] 25)) from Aft.trans HB3.out (Aft.alloc w3 _))
  clear ho3 hb3
  go_wp2_with fail
  refine (refSum_any _ [I, d] _ (TabK_fr HK.out (Fr.of_below (S := fun _ => False) HW3.out) (fun h => h)) HAL.out (by have := HD.out; have := HL2.out; simp; omega)).mono ?_
  rintro e w4 ⟨rfl, hb4⟩
  rw [show ([I, d] : List (List (BitVec 8))).flatten = I ++ d by simp]
  generalize hJ : digest K0 (I ++ d) = J
  have HJ := Lib.hid hJ
  have HJL := Lib.hid (show J.length = 32 by rw [← hJ]; exact digest_length K0 _)
  have HW4 := Lib.hid (show Below w.heap.size w w4 from Aft.trans HW3.out hb4)
  have HB4 := Lib.hid (show Aft w2 w4 from Aft.trans HA3.out hb4)
  have HS4 := Lib.hid (heap_alloc_new w4 (.cells key0 28))
  clear hJ hb4
  go_wp2_with ((refine wpList_store_keyX rfl (.tmp 5) (.tmp 11) rfl w4.heap.size J HJL.out rfl rfl HS4.out ?_; intro w5 q2 q3; have HK5 := Lib.hid q2.out; have HW5 := Lib.hid (show Below w.heap.size w w5 from q3 w.heap.size w HW4.out.size (HW4.out.alloc HW4.out.size _)); have hs4 := Below.size HB4.out; have HB5 := Lib.hid (show Aft w2 w5 from q3 w2.heap.size w2 hs4 (Below.alloc HB4.out hs4 _)); clear q2 q3 hs4))
  have HR5 := Lib.hid ((Below.block HB5.out w.heap.size (heap_lt HR4.out)).trans HR4.out)
  have HKlen := Lib.hid hk
  have hal := fun wx : World => run_sliceAt_key wx w4.heap.size
  clear hk
  simp only [Act.put]
  refine wp_region_lexF (fun i => ([0, 2, 0, 1, 2] : List Nat).getD i 0) 5 (by kernel_rfl) (by kernel_rfl) ?_; intro wf hwf
  have HWf := Lib.hid (show Aft w5 wf by rw [hwf]; exact (Below.refl _ _).drew)
  have HBf := Lib.hid (show Below w.heap.size w wf by rw [hwf]; exact HW5.out.drew)
  clear hwf
  repeat (first | (refine lf_skip (by go_big_quiet_skip; exact wpQuiet_nil trivial) (by kernel_rfl) ?_; simp only [Act.put, List.setIfInBounds_toArray, List.set_cons_succ, List.set_cons_zero]) | (refine lf_quiet rfl (by go_big_quiet_want; exact quiet_false (by assumption)) (by kernel_rfl) rfl ?_; intro Kx hKx; go_big_quiet_op; go_big_quiet_on))
  refine lf_eff rfl (by go_big_quiet_want; exact quiet_false (by assumption)) (by kernel_rfl) ?_
  intro wg hg Kx hKx
  have HWg := Lib.hid (Aft.trans HWf.out hg)
  have HBg := Lib.hid (show Below w.heap.size w wg from Aft.trans HBf.out hg)
  have hh := padded3_any (.slice aok (bv k).length capk) k 92 wg (TabK_fr HK.out (Fr.of_below (S := fun _ => False) HBg.out) (fun h => h)) (HR.out.grow HBg.out) HKlen.out
  rw [← b92] at hh
  have HH2 := Lib.hid hh
  have hfg : Aft wf wg := hg
  clear hh hg
  go_wp2_with fail
  refine HH2.out.mono ?_
  rintro e w6 ⟨a6, c6, rfl, ho6, hb6⟩
  have hRd6 := Rd.of_own ho6
  have hl6 := heldB_length (key64 K0 k) 92
  generalize hO : heldB (key64 K0 k) 92 = O at ho6 hRd6 hl6
  have HO := Lib.hid hO
  have HRd6 := Lib.hid hRd6
  have HL6 := Lib.hid hl6
  have HB6 := Lib.hid (show Aft wf w6 from Aft.trans hfg hb6)
  go_wp2_with fail
  refine ⟨hb6, ?_⟩
  clear hO hRd6 hl6 ho6 hb6 hfg
  repeat (first | (refine lf_skip (by go_big_quiet_skip; exact wpQuiet_nil trivial) (by kernel_rfl) ?_; simp only [Act.put, List.setIfInBounds_toArray, List.set_cons_succ, List.set_cons_zero]) | (refine lf_quiet rfl (by go_big_quiet_want; exact quiet_false (by assumption)) (by kernel_rfl) rfl ?_; intro Kx hKx; go_big_quiet_op; go_big_quiet_on))
  refine lf_fresh (.cells #[.slice a6 64 c6, .slice (some ⟨w4.heap.size, 0, none⟩) 32 32] 25) (fun g => .slice (some ⟨g, 0, none⟩) 2 2) rfl (by kernel_rfl) (fun w1 => by kernel_rfl) ?_
  intro w7 g7 h71 h72 h73
  simp only [Act.put, List.setIfInBounds_toArray, List.set_cons_succ, List.set_cons_zero]
  have HB7 := Lib.hid (Aft.trans HB6.out h71)
  have HG7 := Lib.hid h73
  have HW67 := Lib.hid h71
  clear h71 h72 h73
  refine lf_eff rfl (by go_big_quiet_want; exact quiet_false (by assumption)) (by kernel_rfl) ?_
  intro w8 h8 Kx hKx
  have HB8 := Lib.hid (show Below w.heap.size w w8 from Aft.trans HBf.out (Aft.trans HB7.out h8))
  have hal2 := RdAll.two (h8.get HG7.out) (HRd6.out.grow (Aft.trans HW67.out h8)) (Rd.of_key (X := J) (t := 28) (Aft.get (Aft.trans HWf.out (Aft.trans HB7.out h8)) HK5.out) HJL.out)
  have hsum := refSum_any _ [O, J] w8 (TabK_fr HK.out (Fr.of_below (S := fun _ => False) HB8.out) (fun h => h)) hal2 (by have := HJL.out; have := HL6.out; simp; omega)
  rw [show ([O, J] : List (List (BitVec 8))).flatten = O ++ J by simp] at hsum
  generalize hX : digest K0 (O ++ J) = X at hsum
  have HX := Lib.hid hX
  have HXL := Lib.hid (show X.length = 32 by rw [← hX]; exact digest_length K0 _)
  have HSum := Lib.hid hsum
  have HA8 := Lib.hid h8
  clear hal2 hsum hX h8
  go_wp2_with fail
  refine HSum.out.mono ?_
  rintro e w9 ⟨rfl, hb9⟩
  have HW9 := Lib.hid (Aft.trans HWf.out (Aft.trans HB7.out (Aft.trans HA8.out hb9)))
  have HF9 := Lib.hid (show Aft wf w9 from Aft.trans HB7.out (Aft.trans HA8.out hb9))
  go_wp2_with fail
  refine ⟨hb9, ?_⟩
  clear hb9
  refine lf_done ?_
  intro wa ha
  have HWa := Lib.hid (Aft.trans HF9.out ha)
  have HS := Lib.hid (show wa.heap[w.heap.size]? = some (.cells key0 28 (0, 0)) from Aft.get (Aft.trans HWf.out HWa.out) HR5.out)
  have HBa := Lib.hid (show Below w.heap.size w wa from Aft.trans HBf.out HWa.out)
  clear ha
  go_wp2_with ((refine wpList_store_keyX rfl (.tmp 4) (.tmp 16) rfl w.heap.size X HXL.out rfl rfl HS.out ?_; intro wb q2 q3; have HKb := Lib.hid q2.out; have HBb := Lib.hid (q3 w.heap.size w (Nat.le_refl _) HBa.out); clear q2 q3))
  have hsz8 : (Tryd.prog.info? 28).map (·.size) = some (bv X).toArray.size := by rw [List.size_toArray, bv_length, HXL.out]; kernel_rfl
  refine bodyPost_ret (results_cell_row rfl _ _ w.heap.size 28 (bv X).toArray (0, 0) _ rfl HKb.out Tryd.underlying28 rfl hsz8) rfl ?_
  refine ⟨?_, HBb.out⟩
  rw [← HX.out]
  unfold macOf
  rw [HO.out, HI.out, ← HDf.out, HJ.out]
end Go.Proofs.YtifehfcgmodmaaaDoor
/- coterielaw03.MacSums: it answers true. -/
namespace Go.Proofs.YtifehfcgmodmaaaDoor
open Go Go.RowKit
theorem wp_bin {P : Program} {o : Oper} {a : Act} {w : World} {K : Act → World → Prop} {Q : Exit → Act → World → Prop} (op : BinOp) (t t2 : TypeId) (x y : Operand) (ho : o.op = .binOp op t x y t2) (vx vy v : Value) (hx : a.eval x = vx) (hy : a.eval y = vy)
    (hr : ∀ w1, (Go.binOp op t vx vy).run P w1 = .ok v w1) (hg : ∀ w1, (eqGuard op t x y vx vy).run P w1 = .ok () w1) (h : K (a.put o.dst v) w) : o.wp P a w K Q := by
  unfold Oper.wp execOp
  simp only [ho, hx, hy, Sem.run_bind, hg, hr, Result.andThen_ok, Sem.run_pure]
  exact h
theorem wpList_binG {P : Program} {w : World} {ops : Array Oper} {rest : List Oper} {o : Oper} {a : Act} {Q : Exit → Act → World → Prop} (hw : Region.wanted o (yielded ops a.tmps) = true) (op : BinOp) (t t2 : TypeId) (x y : Operand) (ho : o.op = .binOp op t x y t2) (vx vy v : Value) (hx : a.eval x = vx) (hy : a.eval y = vy)
    (hr : ∀ w1, (Go.binOp op t vx vy).run P w1 = .ok v w1) (hg : ∀ w1, (eqGuard op t x y vx vy).run P w1 = .ok () w1) (h : wpList P ops Q rest (a.put o.dst v) w) : wpList P ops Q (o :: rest) a w := by
  unfold wpList
  rw [if_pos hw]
  exact .inl (wp_noOut (wp_bin op t t2 x y ho vx vy v hx hy hr hg h))
set_option maxRecDepth 100000 in
set_option maxHeartbeats 1000000 in
theorem refExtract_any (vs vx : Value) (s x : List (BitVec 8)) (w : World) (hK : TabK K0 0 w) (hrs : Rd w vs (bv s)) (hrx : Rd w vx (bv x)) (hs : s.length ≤ 1099511627776) (hx : x.length ≤ 1000000000000) :
    Calls Tryd.prog 33 #[vs, vx] w fun e w' => e = .returned (.agg (bv (macOf K0 s x)).toArray) ∧ Below w.heap.size w w' := by
  have HK := Lib.hid hK
  have HR := Lib.hid hrs
  have HX := Lib.hid hrx
  obtain ⟨aos, caps, rfl, -, -, -, -⟩ := hrs
  obtain ⟨aox, capx, rfl, -, -, -, -⟩ := hrx
  clear hK
  go_enter Tryd.func33, Tryd.ntmps33
  have hb0 : Aft w (w.alloc (.cells key0 28)) := Aft.alloc _ _
  have hal : Aft w ((w.alloc (.cells key0 28)).alloc (.cells #[.slice aox (bv x).length capx] 25)) := Aft.trans hb0 (Aft.alloc _ _)
  have hone := RdAll.one (w.alloc (.cells key0 28)) (.slice aox (bv x).length capx) x 25 (HX.out.grow hb0)
  rw [World.size_alloc] at hone
  have hm := refMac_any (.slice aos (bv s).length caps) (.slice (some ⟨w.heap.size + 1, 0, none⟩) 1 1) s [x] _ (TabK_fr HK.out (Fr.of_below (S := fun _ => False) hal) (fun h => h)) (HR.out.grow hal) hone hs (by simp; omega)
  rw [show ([x] : List (List (BitVec 8))).flatten = x by simp] at hm
  have hxl := macOf_length K0 s x
  generalize macOf K0 s x = X at hm hxl ⊢
  have HXL := Lib.hid hxl
  have HM := Lib.hid hm
  have HAl := Lib.hid hal
  have HZ := Lib.hid (heap_alloc_new w (.cells key0 28))
  clear hm hxl hal hb0 hone
  go_wp2_with fail
  refine HM.out.mono ?_
  rintro e w2 ⟨rfl, hb2⟩
  have hA2 : Aft ((w.alloc (.cells key0 28)).alloc (.cells #[.slice aox (bv x).length capx] 25)) w2 := hb2
  have HB2 := Lib.hid (show Below w.heap.size w w2 from Aft.trans HAl.out hA2)
  have HS2 := Lib.hid (Aft.get hA2 (Aft.get (Aft.alloc (w.alloc (.cells key0 28)) (.cells #[.slice aox (bv x).length capx] 25)) HZ.out))
  clear hb2 hA2
  go_wp2_with ((refine wpList_store_keyX rfl (.tmp 4) (.tmp 8) rfl w.heap.size X HXL.out rfl rfl HS2.out ?_; intro w3 q2 q3; have HK3 := Lib.hid q2.out; have HB3 := Lib.hid (q3 w.heap.size w (Nat.le_refl _) HB2.out); clear q2 q3))
  have hsz8 : (Tryd.prog.info? 28).map (·.size) = some (bv X).toArray.size := by rw [List.size_toArray, bv_length, HXL.out]; kernel_rfl
  refine bodyPost_ret (results_cell_row rfl _ _ w.heap.size 28 (bv X).toArray (0, 0) _ rfl HK3.out Tryd.underlying28 rfl hsz8) rfl ?_
  exact ⟨rfl, HB3.out⟩
set_option maxRecDepth 100000 in
set_option maxHeartbeats 1000000 in
theorem macExtract_any (vs vx : Value) (s x : List (BitVec 8)) (w : World) (hK : TabK K0 1 w) (hrs : Rd w vs (bv s)) (hrx : Rd w vx (bv x)) (hs : s.length ≤ 1099511627776) (hx : x.length ≤ 1000000000000) :
    Calls Tryd.prog 32 #[vs, vx] w fun e w' => e = .returned (.agg (bv (macOf K0 s x)).toArray) ∧ Below w.heap.size w w' := by
  have HK := Lib.hid hK
  have HR := Lib.hid hrs
  have HX := Lib.hid hrx
  obtain ⟨aos, caps, rfl, -, -, -, -⟩ := hrs
  obtain ⟨aox, capx, rfl, -, -, -, -⟩ := hrx
  clear hK
  go_enter Tryd.func32, Tryd.ntmps32
  have hb0 : Aft w (w.alloc (.cells key0 28)) := Aft.alloc _ _
  have hal : Aft w ((w.alloc (.cells key0 28)).alloc (.cells #[.slice aox (bv x).length capx] 25)) := Aft.trans hb0 (Aft.alloc _ _)
  have hone := RdAll.one (w.alloc (.cells key0 28)) (.slice aox (bv x).length capx) x 25 (HX.out.grow hb0)
  rw [World.size_alloc] at hone
  have hm := mac_any (.slice aos (bv s).length caps) (.slice (some ⟨w.heap.size + 1, 0, none⟩) 1 1) s [x] _ (TabK_fr HK.out (Fr.of_below (S := fun _ => False) hal) (fun h => h)) (HR.out.grow hal) hone hs (by simp) (by simp; omega)
  rw [show ([x] : List (List (BitVec 8))).flatten = x by simp] at hm
  have hxl := macOf_length K0 s x
  generalize macOf K0 s x = X at hm hxl ⊢
  have HXL := Lib.hid hxl
  have HM := Lib.hid hm
  have HAl := Lib.hid hal
  have HZ := Lib.hid (heap_alloc_new w (.cells key0 28))
  clear hm hxl hal hb0 hone
  go_wp2_with fail
  refine HM.out.mono ?_
  rintro e w2 ⟨rfl, hb2⟩
  have hA2 : Aft ((w.alloc (.cells key0 28)).alloc (.cells #[.slice aox (bv x).length capx] 25)) w2 := hb2
  have HB2 := Lib.hid (show Below w.heap.size w w2 from Aft.trans HAl.out hA2)
  have HS2 := Lib.hid (Aft.get hA2 (Aft.get (Aft.alloc (w.alloc (.cells key0 28)) (.cells #[.slice aox (bv x).length capx] 25)) HZ.out))
  clear hb2 hA2
  go_wp2_with ((refine wpList_store_keyX rfl (.tmp 4) (.tmp 8) rfl w.heap.size X HXL.out rfl rfl HS2.out ?_; intro w3 q2 q3; have HK3 := Lib.hid q2.out; have HB3 := Lib.hid (q3 w.heap.size w (Nat.le_refl _) HB2.out); clear q2 q3))
  have hsz8 : (Tryd.prog.info? 28).map (·.size) = some (bv X).toArray.size := by rw [List.size_toArray, bv_length, HXL.out]; kernel_rfl
  refine bodyPost_ret (results_cell_row rfl _ _ w.heap.size 28 (bv X).toArray (0, 0) _ rfl HK3.out Tryd.underlying28 rfl hsz8) rfl ?_
  exact ⟨rfl, HB3.out⟩
set_option maxRecDepth 100000 in
set_option maxHeartbeats 2000000 in
theorem macSums_any (vk vp vx : Value) (k : List (BitVec 8)) (ps : List (List (BitVec 8))) (x : List (BitVec 8)) (w : World) (hK : TabK K0 1 w) (hK2 : TabK K0 0 w)
    (hrk : Rd w vk (bv k)) (hrp : RdAll w vp ps) (hrx : Rd w vx (bv x)) (h1 : ps.length ≤ 1048576) (h3 : ps.flatten.length ≤ 1048576) :
    Calls Tryd.prog 7 #[vk, vp, vx] w fun e w' => e = .returned (.bool true) ∧ Below w.heap.size w w' := by
  have HK := Lib.hid hK
  have HK2 := Lib.hid hK2
  have HR := Lib.hid hrk
  have HP := Lib.hid hrp
  have HX := Lib.hid hrx
  have HL3 := Lib.hid h3
  have HL1 := Lib.hid h1
  obtain ⟨aok, capk, rfl, -, -, -, -⟩ := hrk
  obtain ⟨aop, capp, rfl, -⟩ := hrp.shape
  obtain ⟨aox, capx, rfl, -, -, -, -⟩ := hrx
  clear hK hK2 hrp h1 h3
  have HL := Lib.hid (live3_any w HK.out)
  go_enter Tryd.func7, Tryd.ntmps7
  go_wp2_with fail
  refine HL.out.mono ?_
  rintro e w1 ⟨rfl, hb1⟩
  have HB1 := Lib.hid (show Aft w w1 from hb1)
  clear hb1
  by_cases h1 : (bv k).length > 2000
  · have h1' : (2000 : Int) < ((bv k).length : Nat) := by omega
    go_wp2_with fail
    go_ret
    exact ⟨rfl, HB1.out⟩
  · have h1' : ¬ (2000 : Int) < ((bv k).length : Nat) := by omega
    go_wp2_with fail
    refine (few_any _ ps w1 (HP.out.below HB1.out) (by have := HL1.out; omega)).mono ?_
    rintro e w1' ⟨rfl, rfl⟩
    by_cases hf : few ps
    · rw [decide_eq_true hf]
      by_cases h2 : (bv x).length > 2000
      · have h2' : (2000 : Int) < ((bv x).length : Nat) := by omega
        go_wp2_with fail
        go_ret
        exact ⟨rfl, HB1.out⟩
      · have h2' : ¬ (2000 : Int) < ((bv x).length : Nat) := by omega
        have HLk := Lib.hid (show k.length ≤ 2000 by rw [bv_length] at h1; omega)
        have HLx := Lib.hid (show x.length ≤ 2000 by rw [bv_length] at h2; omega)
        clear h1 h2
        have HXL := Lib.hid (macOf_length K0 k ps.flatten)
        have HYL := Lib.hid (macOf_length K0 k x)
        have HM1 := Lib.hid (fun (wx : World) (h : Aft w wx) => mac_any _ _ k ps wx (TabK_fr HK.out (Fr.of_below (S := fun _ => False) h) (fun h => h)) (HR.out.grow h) (HP.out.below h) (by have := HLk.out; omega) (by have := HL1.out; omega) (by have := HL3.out; omega))
        have HM2 := Lib.hid (fun (wx : World) (h : Aft w wx) => refMac_any _ _ k ps wx (TabK_fr HK2.out (Fr.of_below (S := fun _ => False) h) (fun h => h)) (HR.out.grow h) (HP.out.below h) (by have := HLk.out; omega) (by have := HL3.out; omega))
        have HE1 := Lib.hid (fun (wx : World) (h : Aft w wx) => macExtract_any _ _ k x wx (TabK_fr HK.out (Fr.of_below (S := fun _ => False) h) (fun h => h)) (HR.out.grow h) (HX.out.grow h) (by have := HLk.out; omega) (by have := HLx.out; omega))
        have HE2 := Lib.hid (fun (wx : World) (h : Aft w wx) => refExtract_any _ _ k x wx (TabK_fr HK2.out (Fr.of_below (S := fun _ => False) h) (fun h => h)) (HR.out.grow h) (HX.out.grow h) (by have := HLk.out; omega) (by have := HLx.out; omega))
        generalize macOf K0 k ps.flatten = X at *
        generalize macOf K0 k x = Y at *
        go_wp2_with fail
        refine (HM1.out _ HB1.out).mono ?_
        rintro e w2 ⟨rfl, hb2⟩
        have HB2 := Lib.hid (Aft.trans HB1.out hb2)
        clear hb2
        go_wp2_with fail
        refine (HM2.out _ HB2.out).mono ?_
        rintro e w3 ⟨rfl, hb3⟩
        have HB3 := Lib.hid (Aft.trans HB2.out hb3)
        clear hb3
        go_wp2_with ((refine wpList_binG (by kernel_rfl) .eql 28 28 (.tmp 29) (.tmp 32) rfl _ _ _ rfl rfl (run_eql_key X HXL.out) (guard_key _ _ _ _ _) ?_))
        refine (HE1.out _ HB3.out).mono ?_
        rintro e w4 ⟨rfl, hb4⟩
        have HB4 := Lib.hid (Aft.trans HB3.out hb4)
        clear hb4
        go_wp2_with fail
        refine (HE2.out _ HB4.out).mono ?_
        rintro e w5 ⟨rfl, hb5⟩
        have HB5 := Lib.hid (Aft.trans HB4.out hb5)
        clear hb5
        go_wp2_with ((refine wpList_binG (by kernel_rfl) .eql 28 28 (.tmp 38) (.tmp 41) rfl _ _ _ rfl rfl (run_eql_key Y HYL.out) (guard_key _ _ _ _ _) ?_))
        refine (macEq_any _ _ k x _ (HR.out.grow HB5.out) (HX.out.grow HB5.out)).mono ?_
        rintro e w6 ⟨rfl, hb6⟩
        have HB6 := Lib.hid (Aft.trans HB5.out hb6)
        clear hb6
        go_wp2_with fail
        refine (same_any _ _ k x _ (HR.out.grow HB6.out) (HX.out.grow HB6.out)).mono ?_
        rintro e w7 ⟨rfl, rfl⟩
        go_wp2_with fail
        go_ret
        exact ⟨by simp, HB6.out⟩
    · rw [decide_eq_false hf]
      go_wp2_with fail
      go_ret
      exact ⟨rfl, HB1.out⟩
end Go.Proofs.YtifehfcgmodmaaaDoor
/- coterielaw02.ShaSteps: it answers true. -/
namespace Go.Proofs.YtifehfcgmodmaaaDoor
open Go Go.RowKit
theorem shaArr_info (s : St) (N : Nat) (vr : Value) : (Tryd.prog.info? 37).map (·.size) = some (shaArr s N vr).size := by rw [show (shaArr s N vr).size = 10 from rfl]; kernel_rfl
theorem shaArr_size (s : St) (N : Nat) (vr : Value) : (shaArr s N vr).size = 10 := rfl
theorem shaArr_one (s : St) (N : Nat) (ao : Option Addr) (n c : Nat) : (shaArr s N (.slice ao n c)).all (·.oneCell') = true := by kernel_rfl
/-- What Done hands back. -/
def doneKey (s : St) (N : Nat) (rest : List (BitVec 8)) : List (BitVec 8) := if chk s N (bv rest).length = 0 then finKey K0 s N rest else List.replicate 32 0
theorem doneKey_length (s : St) (N : Nat) (rest : List (BitVec 8)) : (doneKey s N rest).length = 32 := by
  unfold doneKey
  split
  · rw [finKey_abs]; exact keyBytes_length _
  · exact List.length_replicate
theorem key0_bv : (bv (List.replicate 32 0)).toArray = key0 := by rw [← bv_zeros]; rfl
theorem doneKey_arr (s : St) (N : Nat) (rest : List (BitVec 8)) : (if chk s N (bv rest).length = 0 then (bv (finKey K0 s N rest)).toArray else key0) = (bv (doneKey s N rest)).toArray := by
  unfold doneKey
  split
  · rfl
  · exact key0_bv.symm
theorem done2_any (s : St) (N : Nat) (vr : Value) (rest : List (BitVec 8)) (w : World) (hK : TabK K0 1 w) (hrd : Rd w vr (bv rest)) (hN : N < 18446744073709551616) (hlen : rest.length ≤ 1099511627776) :
    Calls Tryd.prog 35 #[.agg (shaArr s N vr)] w fun e w' => (e = .returned (.tuple #[.agg (bv (doneKey s N rest)).toArray, .int .i64 (chk s N (bv rest).length)])) ∧ Below w.heap.size w w' := by
  have h := done_any K0 s N vr rest w hK hrd hN hlen
  rw [doneKey_arr] at h
  exact h
theorem refDone2_any (s : St) (N : Nat) (vr : Value) (rest : List (BitVec 8)) (w : World) (hK : TabK K0 0 w) (hrd : Rd w vr (bv rest)) (hN : N < 18446744073709551616) (hlen : rest.length ≤ 1099511627776) :
    Calls Tryd.prog 36 #[.agg (shaArr s N vr)] w fun e w' => (e = .returned (.tuple #[.agg (bv (doneKey s N rest)).toArray, .int .i64 (chk s N (bv rest).length)])) ∧ Below w.heap.size w w' := by
  have h := refDone_any s N vr rest w hK hrd hN hlen
  rw [doneKey_arr] at h
  exact h
/-- Two sums, in two blocks. -/
def boxW (s : St) (N : Nat) (vr : Value) (o : St) (M : Nat) (vo : Value) (w : World) : World := (w.alloc (.cells (shaArr s N vr) 37)).alloc (.cells (shaArr o M vo) 37)
theorem boxW_aft (s : St) (N : Nat) (vr : Value) (o : St) (M : Nat) (vo : Value) (w : World) : Aft w (boxW s N vr o M vo w) := Aft.trans (Aft.alloc w _) (Aft.alloc _ _)
theorem boxW_s (s : St) (N : Nat) (vr : Value) (o : St) (M : Nat) (vo : Value) (w : World) : (boxW s N vr o M vo w).heap[w.heap.size]? = some (.cells (shaArr s N vr) 37 (0, 0)) := heap_alloc2_old w _ _
theorem boxW_o (s : St) (N : Nat) (vr : Value) (o : St) (M : Nat) (vo : Value) (w : World) : (boxW s N vr o M vo w).heap[w.heap.size + 1]? = some (.cells (shaArr o M vo) 37 (0, 0)) := heap_alloc2_new w _ _
set_option maxRecDepth 100000 in
set_option maxHeartbeats 4000000 in
theorem shaSteps_any (s : St) (N : Nat) (vr : Value) (rest : List (BitVec 8)) (o : St) (M : Nat) (vo : Value) (rest2 : List (BitVec 8)) (vp : Value) (ps : List (List (BitVec 8))) (w : World) (hK : TabK K0 1 w) (hK2 : TabK K0 0 w)
    (hrd : Rd w vr (bv rest)) (hro : Rd w vo (bv rest2)) (hrp : RdAll w vp ps) (hN : N < 18446744073709551616) (h1 : ps.length ≤ 1048576) (h3 : ps.flatten.length ≤ 1048576) :
    Calls Tryd.prog 8 #[.agg #[.int .u32 (wn s.a), .int .u32 (wn s.b), .int .u32 (wn s.c), .int .u32 (wn s.d), .int .u32 (wn s.e), .int .u32 (wn s.f), .int .u32 (wn s.g), .int .u32 (wn s.h), .int .u64 (N : Int), vr],
      .agg #[.int .u32 (wn o.a), .int .u32 (wn o.b), .int .u32 (wn o.c), .int .u32 (wn o.d), .int .u32 (wn o.e), .int .u32 (wn o.f), .int .u32 (wn o.g), .int .u32 (wn o.h), .int .u64 (M : Int), vo], vp] w
      fun e w' => e = .returned (.bool true) ∧ Below w.heap.size w w' := by
  have HK := Lib.hid hK
  have HK2 := Lib.hid hK2
  have HR := Lib.hid hrd
  have HRo := Lib.hid hro
  have HP := Lib.hid hrp
  have HL1 := Lib.hid h1
  have HL3 := Lib.hid h3
  obtain ⟨ao, cap, rfl, -, -, -, -⟩ := hrd
  obtain ⟨aq, caq, rfl, -, -, -, -⟩ := hro
  obtain ⟨aop, capp, rfl, -⟩ := hrp.shape
  clear hK hK2 hrp h1 h3
  go_enter Tryd.func8, Tryd.ntmps8
  have HL := Lib.hid (live2_any (boxW s N (.slice ao (bv rest).length cap) o M (.slice aq (bv rest2).length caq) w) (TabK_fr HK.out (Fr.of_below (S := fun _ => False) (boxW_aft _ _ _ _ _ _ w)) (fun h => h)))
  go_wp2_with fail
  refine HL.out.mono ?_
  rintro e w1 ⟨rfl, hb1⟩
  have HB1 := Lib.hid (show Aft w w1 from Aft.trans (boxW_aft _ _ _ _ _ _ w) hb1)
  have HS1 := Lib.hid (Aft.get hb1 (boxW_s s N (.slice ao (bv rest).length cap) o M (.slice aq (bv rest2).length caq) w))
  have HO1 := Lib.hid (Aft.get hb1 (boxW_o s N (.slice ao (bv rest).length cap) o M (.slice aq (bv rest2).length caq) w))
  clear hb1
  go_wp2_with fail
  refine (few_any _ ps w1 (HP.out.below HB1.out) (by have := HL1.out; omega)).mono ?_
  rintro e w1' ⟨rfl, rfl⟩
  obtain ⟨-, -, -, -, -, -, -, -, -, g9⟩ := sha_all (sha_row HS1.out)
  obtain ⟨-, -, -, -, -, -, -, -, -, k9⟩ := sha_all (sha_row HO1.out)
  by_cases hf : few ps
  · rw [decide_eq_true hf]
    by_cases hl1 : (bv rest).length > 200
    · have hl1' : (200 : Int) < ((bv rest).length : Nat) := by omega
      go_wp2_with fail
      go_ret
      exact ⟨rfl, HB1.out⟩
    · have hl1' : ¬ (200 : Int) < ((bv rest).length : Nat) := by omega
      by_cases hl2 : (bv rest2).length > 200
      · have hl2' : (200 : Int) < ((bv rest2).length : Nat) := by omega
        go_wp2_with fail
        go_ret
        exact ⟨rfl, HB1.out⟩
      · have hl2' : ¬ (200 : Int) < ((bv rest2).length : Nat) := by omega
        have HLr := Lib.hid (show rest.length ≤ 200 by rw [bv_length] at hl1; omega)
        have HLo := Lib.hid (show rest2.length ≤ 200 by rw [bv_length] at hl2; omega)
        clear hl1 hl2
        go_wp2_with fail
        refine (copy_any _ rest _ (HR.out.grow HB1.out) (by have := HLr.out; omega)).mono ?_
        rintro e w2 ⟨a2, c2, rfl, ho2, hb2⟩
        have HB2 := Lib.hid (Aft.trans HB1.out hb2)
        have HC2 := Lib.hid (Rd.of_own ho2)
        have HS2 := Lib.hid (Aft.get (show Aft _ w2 from hb2) HS1.out)
        have HO2 := Lib.hid (Aft.get (show Aft _ w2 from hb2) HO1.out)
        clear ho2 hb2 g9 k9 hl1' hl2'
        have HWr := Lib.hid (fun (wx : World) (h : Aft w wx) => write_any K0 s N _ _ rest ps wx (TabK_fr HK.out (Fr.of_below (S := fun _ => False) h) (fun h => h)) (HR.out.grow h) (HP.out.below h) hN (by have := HLr.out; omega) (by have := HL3.out; omega))
        have HRw := Lib.hid (fun (wx : World) (h : Aft w wx) => refWrite_any s N _ _ rest ps wx (TabK_fr HK2.out (Fr.of_below (S := fun _ => False) h) (fun h => h)) (HR.out.grow h) (HP.out.below h) hN (by have := HLr.out; omega) (by have := HL3.out; omega))
        have HDn := Lib.hid (fun (wx : World) (h : Aft w wx) => done2_any s N _ rest wx (TabK_fr HK.out (Fr.of_below (S := fun _ => False) h) (fun h => h)) (HR.out.grow h) hN (by have := HLr.out; omega))
        have HRdn := Lib.hid (fun (wx : World) (h : Aft w wx) => refDone2_any s N _ rest wx (TabK_fr HK2.out (Fr.of_below (S := fun _ => False) h) (fun h => h)) (HR.out.grow h) hN (by have := HLr.out; omega))
        have HCk := Lib.hid (fun (wx : World) => check_any s N (bv rest).length cap ao wx hN (by rw [bv_length]; have := HLr.out; omega))
        have HRck := Lib.hid (fun (wx : World) => refCheck_any s N (bv rest).length cap ao wx hN (by rw [bv_length]; have := HLr.out; omega))
        have HXL := Lib.hid (doneKey_length s N rest)
        generalize doneKey s N rest = X at *
        generalize chk s N (bv rest).length = C at *
        go_wp2_with ((refine wpList_load_row rfl 37 (.tmp 3) rfl w.heap.size rfl 37 (shaArr s N (.slice ao (bv rest).length cap)) (0, 0) _ HS2.out Tryd.underlying37 rfl (shaArr_info _ _ _) ?_))
        refine (HWr.out w2 HB2.out).mono ?_
        rintro e w3 ⟨st, N1, rs, er, va, hw, rfl, ho3, hb3⟩
        obtain ⟨a3, c3, rfl⟩ := own_shape ho3
        have HW := Lib.hid hw
        have HOa := Lib.hid ho3
        have HB3 := Lib.hid (show Aft w w3 from Aft.trans HB2.out hb3)
        have HA23 := Lib.hid (show Aft w2 w3 from hb3)
        have HZ3 := Lib.hid (heap_alloc_new w3 (.cells zero10 37))
        clear hw ho3 hb3
        go_wp2_with (first
          | (refine wpList_store_rowX rfl 37 (.tmp 9) (.tmp 43) rfl w3.heap.size (shaArr st N1 (.slice a3 (bv rs).length c3)) rfl rfl 37 zero10 HZ3.out (shaArr_info _ _ _) rfl (shaArr_one _ _ _ _ _) ?_; intro w4 q2 q3; have h34 := (show Aft w3 w4 from q3 w3.heap.size w3 (Nat.le_refl _) (Aft.alloc _ _)); have H34 := Lib.hid h34; have HB4 := Lib.hid (Aft.trans HB3.out h34); have HA4 := Lib.hid q2.out; have HS4 := Lib.hid (Aft.get h34 (Aft.get HA23.out HS2.out)); clear q2 q3 h34)
          | (refine wpList_load_row rfl 37 (.tmp 3) rfl w.heap.size rfl 37 (shaArr s N (.slice ao (bv rest).length cap)) (0, 0) _ HS4.out Tryd.underlying37 rfl (shaArr_info _ _ _) ?_))
        refine (HRw.out w4 HB4.out).mono ?_
        rintro e w5 ⟨st', N1', rs', er', vb, hw', rfl, hrb, hb5⟩
        rw [← HW.out] at hw'
        simp only [Prod.mk.injEq] at hw'
        obtain ⟨rfl, rfl, rfl, rfl⟩ := hw'
        have HRb := Lib.hid hrb
        obtain ⟨a5, c5, rfl, -, -, -, -⟩ := hrb
        have HB5 := Lib.hid (show Aft w w5 from Aft.trans HB4.out hb5)
        have H45 := Lib.hid (show Aft w4 w5 from hb5)
        have HZ5 := Lib.hid (heap_alloc_new w5 (.cells zero10 37))
        clear hb5
        go_wp2_with (first
          | (refine wpList_store_rowX rfl 37 (.tmp 11) (.tmp 49) rfl w5.heap.size (shaArr st' N1' (.slice a5 (bv rs').length c5)) rfl rfl 37 zero10 HZ5.out (shaArr_info _ _ _) rfl (shaArr_one _ _ _ _ _) ?_; intro w6 q2 q3; have h56 := (show Aft w5 w6 from q3 w5.heap.size w5 (Nat.le_refl _) (Aft.alloc _ _)); have H46 := Lib.hid (Aft.trans H45.out h56); have H56 := Lib.hid h56; have HB6 := Lib.hid (Aft.trans HB5.out h56); have HE6 := Lib.hid q2.out; have HS6 := Lib.hid (Aft.get (Aft.trans H45.out h56) HS4.out); clear q2 q3 h56)
          | (refine wpList_load_row rfl 37 (.tmp 3) rfl w.heap.size rfl 37 (shaArr s N (.slice ao (bv rest).length cap)) (0, 0) _ HS6.out Tryd.underlying37 rfl (shaArr_info _ _ _) ?_))
        refine (HDn.out w6 HB6.out).mono ?_
        rintro e w7 ⟨rfl, hb7⟩
        have HB7 := Lib.hid (show Aft w w7 from Aft.trans HB6.out hb7)
        have H67 := Lib.hid (show Aft w6 w7 from hb7)
        have HZ7 := Lib.hid (heap_alloc_new w7 (.cells key0 28))
        clear hb7
        go_wp2_with (first
          | (refine wpList_store_keyX rfl (.tmp 13) (.tmp 54) rfl w7.heap.size X HXL.out rfl rfl HZ7.out ?_; intro w8 q2 q3; have h78 := (show Aft w7 w8 from q3 w7.heap.size w7 (Nat.le_refl _) (Aft.alloc _ _)); have H68 := Lib.hid (Aft.trans H67.out h78); have HB8 := Lib.hid (Aft.trans HB7.out h78); have HC8 := Lib.hid q2.out; have HS8 := Lib.hid (Aft.get (Aft.trans H67.out h78) HS6.out); clear q2 q3 h78)
          | (refine wpList_load_row rfl 37 (.tmp 3) rfl w.heap.size rfl 37 (shaArr s N (.slice ao (bv rest).length cap)) (0, 0) _ HS8.out Tryd.underlying37 rfl (shaArr_info _ _ _) ?_))
        refine (HRdn.out w8 HB8.out).mono ?_
        rintro e w9 ⟨rfl, hb9⟩
        have HB9 := Lib.hid (show Aft w w9 from Aft.trans HB8.out hb9)
        have H89 := Lib.hid (show Aft w8 w9 from hb9)
        have HZ9 := Lib.hid (heap_alloc_new w9 (.cells key0 28))
        clear hb9
        go_wp2_with ((refine wpList_store_keyX rfl (.tmp 15) (.tmp 59) rfl w9.heap.size X HXL.out rfl rfl HZ9.out ?_; intro wa q2 q3; have h9a := (show Aft w9 wa from q3 w9.heap.size w9 (Nat.le_refl _) (Aft.alloc _ _)); have H8a := Lib.hid (Aft.trans H89.out h9a); have HBa := Lib.hid (Aft.trans HB9.out h9a); have HDa := Lib.hid q2.out; clear q2 q3 h9a))
        have H6a := Lib.hid (Aft.trans H68.out H8a.out)
        have H4a := Lib.hid (Aft.trans H46.out H6a.out)
        have HSa := Lib.hid (Aft.get H8a.out HS8.out)
        have HOxa := Lib.hid (Aft.get H4a.out (Aft.get H34.out (Aft.get HA23.out HO2.out)))
        have HAa := Lib.hid (Aft.get H4a.out HA4.out)
        have HEa := Lib.hid (Aft.get H6a.out HE6.out)
        have HCa := Lib.hid (Aft.get H8a.out HC8.out)
        have HRva := Lib.hid ((Rd.of_own HOa.out).grow (Aft.trans H34.out H4a.out))
        have HRvb := Lib.hid (HRb.out.grow (Aft.trans H56.out H6a.out))
        have HSm := Lib.hid (fun (wx : World) (h : Aft w wx) => shaSame_any s o N M (.slice ao (bv rest).length cap) (.slice aq (bv rest2).length caq) rest rest2 wx (HR.out.grow h) (HRo.out.grow h))
        have HRsm := Lib.hid (fun (wx : World) (h : Aft w wx) => refSame_any s o N M (.slice ao (bv rest).length cap) (.slice aq (bv rest2).length caq) rest rest2 wx (HR.out.grow h) (HRo.out.grow h))
        generalize decide (s = o ∧ N = M ∧ rest = rest2) = B at *
        refine wp_region_lexF (fun i => ([0, 0, 2, 0, 0, 0, 0, 0, 0, 0, 0, 0, 0, 0, 0, 0, 0, 0, 0, 0, 2, 0, 2, 0, 0, 0, 0, 0, 2, 0, 0, 2, 0, 0, 0, 2, 2, 2, 0] : List Nat).getD i 0) 39 (by kernel_rfl) (by kernel_rfl) ?_; intro wf hwf
        have HWf := Lib.hid (show Aft wa wf by rw [hwf]; exact (Below.refl _ _).drew)
        clear hwf
        refine lf_load_row rfl (by kernel_rfl) 37 (.tmp 9) rfl w3.heap.size rfl _ (shaArr st' N1' (.slice a3 (bv rs').length c3)) _ _ (Aft.get HWf.out HAa.out) Tryd.underlying37 rfl (shaArr_info _ _ _) ?_
        simp only [Act.put, List.setIfInBounds_toArray, List.set_cons_succ, List.set_cons_zero]
        refine lf_load_row rfl (by kernel_rfl) 37 (.tmp 11) rfl w5.heap.size rfl _ (shaArr st' N1' (.slice a5 (bv rs').length c5)) _ _ (Aft.get HWf.out HEa.out) Tryd.underlying37 rfl (shaArr_info _ _ _) ?_
        simp only [Act.put, List.setIfInBounds_toArray, List.set_cons_succ, List.set_cons_zero]
        refine lf_eff rfl (by go_big_quiet_want; exact quiet_false (by assumption)) (by kernel_rfl) ?_; intro wl hl Kx hKx; go_wp2_with fail
        have HY1 := Lib.hid (show Aft wf wl from hl)
        have HZ21w := Lib.hid (show Aft w wl from Aft.trans HBa.out (Aft.trans HWf.out HY1.out))
        refine (refSame_any st' st' N1' N1' (.slice a3 (bv rs').length c3) (.slice a5 (bv rs').length c5) rs' rs' wl (HRva.out.grow (Aft.trans HWf.out HY1.out)) (HRvb.out.grow (Aft.trans HWf.out HY1.out))).mono ?_
        rintro e wm ⟨rfl, hm⟩
        have HX1 := Lib.hid (show Aft wf wm from Aft.trans HY1.out hm)
        simp only [and_self, decide_true]
        go_wp2_with fail
        refine ⟨hm, ?_⟩
        clear hm hl
        repeat (first | (refine lf_skip (by go_big_quiet_skip; exact wpQuiet_nil trivial) (by kernel_rfl) ?_; simp only [Act.put, List.setIfInBounds_toArray, List.set_cons_succ, List.set_cons_zero]) | (refine lf_quiet rfl (by go_big_quiet_want; exact quiet_false (by assumption)) (by kernel_rfl) rfl ?_; intro Kx hKx; go_big_quiet_op; go_big_quiet_on))
        refine lf_load_row rfl (by kernel_rfl) 28 (.tmp 13) rfl w7.heap.size rfl _ (bv X).toArray _ _ (Aft.get HWf.out HCa.out) Tryd.underlying28 rfl (by rw [List.size_toArray, bv_length, HXL.out]; kernel_rfl) ?_
        simp only [Act.put, List.setIfInBounds_toArray, List.set_cons_succ, List.set_cons_zero]
        refine lf_load_row rfl (by kernel_rfl) 28 (.tmp 15) rfl w9.heap.size rfl _ (bv X).toArray _ _ (Aft.get HWf.out HDa.out) Tryd.underlying28 rfl (by rw [List.size_toArray, bv_length, HXL.out]; kernel_rfl) ?_
        simp only [Act.put, List.setIfInBounds_toArray, List.set_cons_succ, List.set_cons_zero]
        refine lf_bin rfl (by kernel_rfl) .eql 28 28 (.tmp 70) (.tmp 71) rfl _ _ _ rfl rfl (run_eql_key X HXL.out) (guard_key _ _ _ _ _) ?_
        simp only [Act.put, List.setIfInBounds_toArray, List.set_cons_succ, List.set_cons_zero]
        repeat (first | (refine lf_skip (by go_big_quiet_skip; exact wpQuiet_nil trivial) (by kernel_rfl) ?_; simp only [Act.put, List.setIfInBounds_toArray, List.set_cons_succ, List.set_cons_zero]) | (refine lf_quiet rfl (by go_big_quiet_want; exact quiet_false (by assumption)) (by kernel_rfl) rfl ?_; intro Kx hKx; go_big_quiet_op; go_big_quiet_on))
        refine lf_load_row rfl (by kernel_rfl) 37 (.tmp 3) rfl w.heap.size rfl _ (shaArr s N (.slice ao (bv rest).length cap)) _ _ (Aft.get HWf.out HSa.out) Tryd.underlying37 rfl (shaArr_info _ _ _) ?_
        simp only [Act.put, List.setIfInBounds_toArray, List.set_cons_succ, List.set_cons_zero]
        refine lf_eff rfl (by go_big_quiet_want; exact quiet_false (by assumption)) (by kernel_rfl) ?_; intro wl hl Kx hKx; go_wp2_with fail
        have HY2 := Lib.hid (show Aft wf wl from Aft.trans HX1.out hl)
        have HZ22w := Lib.hid (show Aft w wl from Aft.trans HBa.out (Aft.trans HWf.out HY2.out))
        refine (HCk.out wl).mono ?_
        rintro e wm ⟨rfl, hm⟩
        have HX2 := Lib.hid (show Aft wf wm from Aft.trans HY2.out hm)
        go_wp2_with fail
        refine ⟨hm, ?_⟩
        clear hm hl
        repeat (first | (refine lf_skip (by go_big_quiet_skip; exact wpQuiet_nil trivial) (by kernel_rfl) ?_; simp only [Act.put, List.setIfInBounds_toArray, List.set_cons_succ, List.set_cons_zero]) | (refine lf_quiet rfl (by go_big_quiet_want; exact quiet_false (by assumption)) (by kernel_rfl) rfl ?_; intro Kx hKx; go_big_quiet_op; go_big_quiet_on))
        refine lf_load_row rfl (by kernel_rfl) 37 (.tmp 3) rfl w.heap.size rfl _ (shaArr s N (.slice ao (bv rest).length cap)) _ _ (Aft.get HWf.out HSa.out) Tryd.underlying37 rfl (shaArr_info _ _ _) ?_
        simp only [Act.put, List.setIfInBounds_toArray, List.set_cons_succ, List.set_cons_zero]
        refine lf_eff rfl (by go_big_quiet_want; exact quiet_false (by assumption)) (by kernel_rfl) ?_; intro wl hl Kx hKx; go_wp2_with fail
        have HY3 := Lib.hid (show Aft wf wl from Aft.trans HX2.out hl)
        have HZ23w := Lib.hid (show Aft w wl from Aft.trans HBa.out (Aft.trans HWf.out HY3.out))
        refine (HRck.out wl).mono ?_
        rintro e wm ⟨rfl, hm⟩
        have HX3 := Lib.hid (show Aft wf wm from Aft.trans HY3.out hm)
        go_wp2_with fail
        refine ⟨hm, ?_⟩
        clear hm hl
        repeat (first | (refine lf_skip (by go_big_quiet_skip; exact wpQuiet_nil trivial) (by kernel_rfl) ?_; simp only [Act.put, List.setIfInBounds_toArray, List.set_cons_succ, List.set_cons_zero]) | (refine lf_quiet rfl (by go_big_quiet_want; exact quiet_false (by assumption)) (by kernel_rfl) rfl ?_; intro Kx hKx; go_big_quiet_op; go_big_quiet_on))
        refine lf_load_row rfl (by kernel_rfl) 37 (.tmp 3) rfl w.heap.size rfl _ (shaArr s N (.slice ao (bv rest).length cap)) _ _ (Aft.get HWf.out HSa.out) Tryd.underlying37 rfl (shaArr_info _ _ _) ?_
        simp only [Act.put, List.setIfInBounds_toArray, List.set_cons_succ, List.set_cons_zero]
        refine lf_load_row rfl (by kernel_rfl) 37 (.tmp 4) rfl (w.heap.size + 1) rfl _ (shaArr o M (.slice aq (bv rest2).length caq)) _ _ (Aft.get HWf.out HOxa.out) Tryd.underlying37 rfl (shaArr_info _ _ _) ?_
        simp only [Act.put, List.setIfInBounds_toArray, List.set_cons_succ, List.set_cons_zero]
        refine lf_eff rfl (by go_big_quiet_want; exact quiet_false (by assumption)) (by kernel_rfl) ?_; intro wl hl Kx hKx; go_wp2_with fail
        have HY4 := Lib.hid (show Aft wf wl from Aft.trans HX3.out hl)
        have HZ24w := Lib.hid (show Aft w wl from Aft.trans HBa.out (Aft.trans HWf.out HY4.out))
        refine (HSm.out wl HZ24w.out).mono ?_
        rintro e wm ⟨rfl, hm⟩
        have HX4 := Lib.hid (show Aft wf wm from Aft.trans HY4.out hm)
        go_wp2_with fail
        refine ⟨hm, ?_⟩
        clear hm hl
        refine lf_load_row rfl (by kernel_rfl) 37 (.tmp 3) rfl w.heap.size rfl _ (shaArr s N (.slice ao (bv rest).length cap)) _ _ (Aft.get HWf.out HSa.out) Tryd.underlying37 rfl (shaArr_info _ _ _) ?_
        simp only [Act.put, List.setIfInBounds_toArray, List.set_cons_succ, List.set_cons_zero]
        refine lf_load_row rfl (by kernel_rfl) 37 (.tmp 4) rfl (w.heap.size + 1) rfl _ (shaArr o M (.slice aq (bv rest2).length caq)) _ _ (Aft.get HWf.out HOxa.out) Tryd.underlying37 rfl (shaArr_info _ _ _) ?_
        simp only [Act.put, List.setIfInBounds_toArray, List.set_cons_succ, List.set_cons_zero]
        refine lf_eff rfl (by go_big_quiet_want; exact quiet_false (by assumption)) (by kernel_rfl) ?_; intro wl hl Kx hKx; go_wp2_with fail
        have HY5 := Lib.hid (show Aft wf wl from Aft.trans HX4.out hl)
        have HZ25w := Lib.hid (show Aft w wl from Aft.trans HBa.out (Aft.trans HWf.out HY5.out))
        refine (HRsm.out wl HZ25w.out).mono ?_
        rintro e wm ⟨rfl, hm⟩
        have HX5 := Lib.hid (show Aft wf wm from Aft.trans HY5.out hm)
        go_wp2_with fail
        refine ⟨hm, ?_⟩
        clear hm hl
        repeat (first | (refine lf_skip (by go_big_quiet_skip; exact wpQuiet_nil trivial) (by kernel_rfl) ?_; simp only [Act.put, List.setIfInBounds_toArray, List.set_cons_succ, List.set_cons_zero]) | (refine lf_quiet rfl (by go_big_quiet_want; exact quiet_false (by assumption)) (by kernel_rfl) rfl ?_; intro Kx hKx; go_big_quiet_op; go_big_quiet_on))
        refine lf_eff rfl (by go_big_quiet_want; exact quiet_false (by assumption)) (by kernel_rfl) ?_; intro wl hl Kx hKx; go_wp2_with fail
        have HY6 := Lib.hid (show Aft wf wl from Aft.trans HX5.out hl)
        have HZ26w := Lib.hid (show Aft w wl from Aft.trans HBa.out (Aft.trans HWf.out HY6.out))
        refine (new_any' wl).mono ?_
        rintro e wm ⟨rfl, hm⟩
        have HX6 := Lib.hid (show Aft wf wm from Aft.trans HY6.out hm)
        go_wp2_with fail
        refine ⟨hm, ?_⟩
        clear hm hl
        refine lf_eff rfl (by go_big_quiet_want; exact quiet_false (by assumption)) (by kernel_rfl) ?_; intro wl hl Kx hKx; go_wp2_with fail
        have HY7 := Lib.hid (show Aft wf wl from Aft.trans HX6.out hl)
        have HZ27w := Lib.hid (show Aft w wl from Aft.trans HBa.out (Aft.trans HWf.out HY7.out))
        refine (refNew_any wl).mono ?_
        rintro e wm ⟨rfl, hm⟩
        have HX7 := Lib.hid (show Aft wf wm from Aft.trans HY7.out hm)
        go_wp2_with fail
        refine ⟨hm, ?_⟩
        clear hm hl
        refine lf_eff rfl (by go_big_quiet_want; exact quiet_false (by assumption)) (by kernel_rfl) ?_; intro wl hl Kx hKx; go_wp2_with fail
        have HY8 := Lib.hid (show Aft wf wl from Aft.trans HX7.out hl)
        have HZ28w := Lib.hid (show Aft w wl from Aft.trans HBa.out (Aft.trans HWf.out HY8.out))
        refine (refSame_any iv iv 0 0 (.slice none 0 0) (.slice none 0 0) [] [] wl (Rd.nil _) (Rd.nil _)).mono ?_
        rintro e wm ⟨rfl, hm⟩
        have HX8 := Lib.hid (show Aft wf wm from Aft.trans HY8.out hm)
        simp only [and_self, decide_true]
        go_wp2_with fail
        refine ⟨hm, ?_⟩
        clear hm hl
        repeat (first | (refine lf_skip (by go_big_quiet_skip; exact wpQuiet_nil trivial) (by kernel_rfl) ?_; simp only [Act.put, List.setIfInBounds_toArray, List.set_cons_succ, List.set_cons_zero]) | (refine lf_quiet rfl (by go_big_quiet_want; exact quiet_false (by assumption)) (by kernel_rfl) rfl ?_; intro Kx hKx; go_big_quiet_op; go_big_quiet_on))
        refine lf_done ?_
        intro wn hn
        have H3n := Lib.hid (show Aft w3 wn from Aft.trans H34.out (Aft.trans H4a.out (Aft.trans HWf.out (Aft.trans HX8.out hn))))
        have HBn := Lib.hid (show Aft w wn from Aft.trans HB3.out H3n.out)
        have HAn := Lib.hid (Aft.get (Aft.trans HWf.out (Aft.trans HX8.out hn)) HAa.out)
        have HSn := Lib.hid (Aft.get (Aft.trans HWf.out (Aft.trans HX8.out hn)) HSa.out)
        have HOn := Lib.hid (ownsRow_below HOa.out (w' := wn) fun g hg => Below.block H3n.out g (own_lt HOa.out hg).2)
        have HCn := Lib.hid (HC2.out.grow (Aft.trans HA23.out H3n.out))
        have hsz2 : w.heap.size + 1 < w2.heap.size := heap_lt HO2.out
        have hsz3 : w2.heap.size ≤ w3.heap.size := Below.size HA23.out
        have hsl := (Rd.of_own HOa.out).sl
        have hxs0 : ∀ j, j < (bv rs').length → ∃ z, (bv rs')[j]? = some (.int .u8 z) := fun j hj => ⟨_, bv_at rs' j (by rw [bv_length] at hj; exact hj)⟩
        have HX0 := Lib.hid hxs0
        clear hn hxs0
        generalize hnn : (bv rs').length = n at *
        obtain ⟨-, -, -, -, -, -, -, -, -, k9⟩ := sha_all (sha_row HAn.out)
        have HSl := Lib.hid hsl.2
        clear hsl hnn
        go_wp2_with fail
        go_loopw [103] (fun v wr => ∃ i : Nat, i ≤ n ∧ v = .int .i64 i ∧ (∃ xs, wr.ownsRow w2.heap.size 5 1 (.slice a3 n c3) n xs ∧ ∀ j, j < n → ∃ z, xs[j]? = some (.int .u8 z)) ∧ Fr (fun k => w2.heap.size ≤ k ∧ k < w3.heap.size) wn wr) (fun v _ => n - (intOf v).toNat)
        case atStart => exact ⟨0, by omega, rfl, ⟨_, HOn.out, HX0.out⟩, Fr.refl _ _⟩
        case round =>
          obtain ⟨i, hi, rfl, ⟨xs, hox, hxs⟩, hfr⟩ := hrel
          have HAr := Lib.hid ((hfr.block _ (heap_lt HAn.out) (by omega)).trans HAn.out)
          have HSr := Lib.hid ((hfr.block _ (heap_lt HSn.out) (by omega)).trans HSn.out)
          by_cases hlt : i < n
          · have hlt' : (i : Int) < (n : Int) := by omega
            have hn63 : (i : Int) + 1 ≤ 9223372036854775807 := by have := HSl.out; omega
            have hform : ∃ g, a3 = some ⟨g, 0, none⟩ ∧ w2.heap.size ≤ g ∧ g < w3.heap.size := by
              rcases HOa.out.2 with ⟨hv, h0⟩ | ⟨g, cap, cur, hv, hge, hgg, _⟩
              · omega
              · cases hv; exact ⟨g, rfl, hge, heap_lt hgg⟩
            obtain ⟨g, rfl, hg1, hg2⟩ := hform
            obtain ⟨z, hz⟩ := hxs i hlt
            have hcl : wr.cell? ⟨g, i, none⟩ = some (.int .u8 z) := by rw [hox.cellAt i (by omega)]; exact hz
            have hfz := hox.frozenAt i
            have HOx := Lib.hid hox
            have HXs := Lib.hid hxs
            have HFr := Lib.hid hfr
            have HLx := Lib.hid hox.1
            obtain ⟨-, -, -, -, -, -, -, -, -, r9⟩ := sha_all (sha_row HAr.out)
            clear hox hxs hfr hz
            go_wp2_with fail
            go_roundw
            case rel =>
              refine ⟨i + 1, by omega, by go_num, ⟨_, (HOx.out.stored i _).1, fun j hj => ?_⟩, HFr.out.setCell ⟨hg1, hg2⟩ _⟩
              by_cases hji : j = i
              · subst hji
                rw [List.getElem?_set_self (by have := HLx.out; omega)]
                exact ⟨_, rfl⟩
              · rw [List.getElem?_set_ne (fun e => hji e.symm)]
                exact HXs.out j hj
            case measure => simp [intOf]; omega
          · obtain rfl : i = n := by omega
            have hlt' : ¬ (i : Int) < (i : Int) := by omega
            obtain ⟨-, -, -, -, -, -, -, -, -, r9⟩ := sha_all (sha_row HSr.out)
            have HFr := Lib.hid hfr
            have HBr := Lib.hid (show Below w.heap.size w wr from Below.trans HBn.out (hfr.below (B := w.heap.size) (Below.size HBn.out) (fun k hk => by omega)))
            clear hox hxs hfr
            go_wp2_with fail
            refine (same_any _ _ rest rest wr (HR.out.grow HBr.out) (HCn.out.fr HFr.out (fun g hg hx => by have := HC2.out.lt hg hx; omega))).mono ?_
            rintro e w' ⟨rfl, rfl⟩
            go_wp2_with fail
            go_ret
            exact ⟨by simp, HBr.out⟩
  · rw [decide_eq_false hf]
    go_wp2_with fail
    go_ret
    exact ⟨rfl, HB1.out⟩
end Go.Proofs.YtifehfcgmodmaaaDoor
