/- coterieref02.Write: the document's sum, block by block, that stands in a block. -/
import Derived.Test.YtifehfcgmodmaaaDoorRefBox
namespace Go.Proofs.YtifehfcgmodmaaaDoor
open Go Go.RowKit
set_option maxRecDepth 100000 in
theorem run_cut64 {ao : Option Addr} {len cap : Nat} (h : 64 ≤ cap) (wx : World) : (Instr.slice 25 (.slice ao len cap) none (some (.int .i64 64)) none).run Tryd.prog wx = .ok (.slice ao 64 cap) wx := by
  obtain ⟨iB, hiB, -⟩ := info_parts info_byte
  have := cut_to (P := Tryd.prog) (ao := ao) (len := len) (cap := cap) (n := 64) Tryd.underlying25 h wx hiB
  rw [run_sliceAt_slice wx 25 _ _ _ _ Tryd.underlying25] at this
  exact this
set_option maxRecDepth 100000 in
theorem run_drop64 {ao : Option Addr} {len cap : Nat} (h : 64 ≤ len) (wx : World) : (Instr.slice 25 (.slice ao len cap) (some (.int .i64 64)) none none).run Tryd.prog wx = .ok (.slice (if cap = 64 then ao else ao.map (·.add 64)) (len - 64) (cap - 64)) wx := by
  obtain ⟨iB, hiB, hz1, hz2, -⟩ := info_parts info_byte
  have := cut_from (P := Tryd.prog) (ao := ao) (len := len) (cap := cap) (n := 64) Tryd.underlying25 h wx hiB hz2
  rw [run_sliceAt_slice wx 25 _ _ _ _ Tryd.underlying25] at this
  exact this
/-- What is left of a text, as a slice, all of it above a block. -/
def Left (w : World) (bs : Nat) (v : Value) (n cap : Nat) (ao : Option Addr) (xs : List (BitVec 8)) : Prop :=
  v = .slice ao n cap ∧ Rd w v (bv xs) ∧ ∀ g, v.ownBlock = some g → bs + 1 < g
theorem Left.next {w : World} {bs : Nat} {v : Value} {n cap : Nat} {ao : Option Addr} {xs : List (BitVec 8)} (h : Left w bs v n cap ao xs) (h64 : 64 ≤ xs.length) :
    Left w bs (.slice (if cap = 64 then ao else ao.map (·.add 64)) (n - 64) (cap - 64)) (n - 64) (cap - 64) (if cap = 64 then ao else ao.map (·.add 64)) (xs.drop 64) := by
  obtain ⟨rfl, h1, h2⟩ := h
  refine ⟨rfl, ?_, fun g hg => h2 g ?_⟩
  · rw [bv_drop]; exact h1.from (by rw [bv_length]; exact h64)
  · cases ao with
    | none => simp [Value.ownBlock] at hg
    | some a =>
      by_cases hc : cap = 64
      · simpa [hc, Value.ownBlock] using hg
      · simp only [hc, if_false, Option.map_some, Value.ownBlock] at hg ⊢
        rw [← hg]
        unfold Addr.add
        split <;> rfl
theorem Left.head {w : World} {bs : Nat} {v : Value} {n cap : Nat} {ao : Option Addr} {xs : List (BitVec 8)} (h : Left w bs v n cap ao xs) (h64 : 64 ≤ xs.length) :
    ∃ g o, ao = some ⟨g, o, none⟩ ∧ Rd w (.slice ao 64 cap) (bv (xs.take 64)) ∧ bs + 1 < g := by
  obtain ⟨rfl, h1, h2⟩ := h
  have h3 := h1.to (n := 64) (by rw [bv_length]; exact h64)
  obtain ⟨g, o, hgo, -, -⟩ := Rd.some_of h3 (by rw [← bv_take, bv_length, List.length_take]; omega)
  refine ⟨g, o, hgo, by rw [bv_take]; exact h3, h2 g (by rw [hgo]; rfl)⟩
set_option maxRecDepth 100000 in
set_option maxHeartbeats 2000000 in
theorem refWrite_any (s : St) (N : Nat) (vr vp : Value) (rest : List (BitVec 8)) (ps : List (List (BitVec 8))) (w : World) (hK : TabK K0 0 w) (hrd : Rd w vr (bv rest)) (hp : RdAll w vp ps)
    (hN : N < 18446744073709551616) (hlen : rest.length ≤ 1099511627776) (hps : ps.flatten.length ≤ 1099511627776) :
    Calls Tryd.prog 34 #[.agg #[.int .u32 (wn s.a), .int .u32 (wn s.b), .int .u32 (wn s.c), .int .u32 (wn s.d), .int .u32 (wn s.e), .int .u32 (wn s.f), .int .u32 (wn s.g), .int .u32 (wn s.h), .int .u64 (N : Int), vr], vp] w fun e w' =>
      ∃ st N' rs er vr', (st, N', rs, er) = wrote K0 s N rest ps.flatten ∧ e = .returned (.tuple #[.agg #[.int .u32 (wn st.a), .int .u32 (wn st.b), .int .u32 (wn st.c), .int .u32 (wn st.d), .int .u32 (wn st.e), .int .u32 (wn st.f), .int .u32 (wn st.g), .int .u32 (wn st.h), .int .u64 (N' : Int), vr'], .int .i64 er]) ∧
        Rd w' vr' (bv rs) ∧ Below w.heap.size w w' := by
  have HR := Lib.hid hrd
  have HK := Lib.hid hK
  have HP := Lib.hid hp
  have HL := Lib.hid hlen
  obtain ⟨ao, cap, rfl, -, -, -, -⟩ := hrd
  obtain ⟨aop, capp, rfl, -⟩ := hp.shape
  have HC := Lib.hid (fun w => refCheck_any s N (bv rest).length cap ao w hN (by rw [bv_length]; exact hlen))
  clear hK hlen hp
  go_enter Tryd.func34, Tryd.ntmps34
  go_wp2_with fail
  refine (HC.out _).mono ?_
  rintro e w1 ⟨rfl, hb1⟩
  change Below (writeW s N (.slice ao (bv rest).length cap) w).heap.size (writeW s N (.slice ao (bv rest).length cap) w) w1 at hb1
  have hb2 := (writeW_below s N (.slice ao (bv rest).length cap) w).trans (hb1.mono (by rw [writeW_size]; omega))
  have hout1 : w1.heap[w.heap.size + 1]? = some (.cells zero10 37 (0, 0)) := (hb1.block _ (by rw [writeW_size]; omega)).trans (heap_alloc2_new w _ _)
  have h1 := (writeW_sha s N (.slice ao (bv rest).length cap) w).of_block (hb1.block w.heap.size (by rw [writeW_size]; omega))
  have HB := Lib.hid (show Below w.heap.size w w1 from hb2)
  have HO := Lib.hid hout1
  have HS := Lib.hid (sha_whole h1)
  have hlt1 : w.heap.size + 1 < w1.heap.size := heap_lt hout1
  have hs10 : (Tryd.prog.info? 37).map (·.size) = some zero10.size := by kernel_rfl
  have HP1 := Lib.hid (HP.out.below HB.out)
  clear hb1 hb2 hout1 h1
  rcases chk_cases s N (bv rest).length with hc | hc
  · obtain ⟨hN2, hmod, -⟩ := chk_ok hc
    have HMod := Lib.hid hmod
    clear hmod
    have hall := all_any (.slice aop ps.length capp) ps w1 HP1.out (by omega)
    obtain ⟨d, hd⟩ : ∃ d, d = ps.flatten := ⟨_, rfl⟩
    rw [← hd] at hall hps
    have HAll := Lib.hid hall
    have HDf := Lib.hid hd
    clear hall hd
    go_wp2_with fail
    refine HAll.out.mono ?_
    rintro e w2 ⟨a2, c2, rfl, ho2, hb2⟩
    have HA2 := Lib.hid (show Aft w1 w2 from hb2)
    have HO2 := Lib.hid ho2
    have HS2 := Lib.hid (Aft.get HA2.out HS.out)
    obtain ⟨-, -, -, -, -, -, -, -, g8, g9⟩ := sha_all (sha_row HS2.out)
    have f8 := World.rowIs.frozen (sha_row HS2.out) 8
    have hbl := bv_length d
    clear ho2 hb2
    by_cases hover : N + d.length ≤ 1099511627776
    · obtain ⟨M, hM⟩ : ∃ M, M = N + d.length := ⟨_, rfl⟩
      have hNN : (N : Int) + ((bv d).length : Nat) = (M : Int) := by rw [hbl, hM]; rfl
      have hover' : ¬ (1099511627776 : Int) < (M : Int) := by omega
      have hE : (shaSt K0 s (rest ++ d), M, restOf (rest ++ d), (0 : Int)) = wrote K0 s N rest ps.flatten := by rw [← HDf.out]; unfold wrote; rw [if_pos hc, if_pos hover, hM]
      have HE := Lib.hid hE
      have HM := Lib.hid (show M ≤ 1099511627776 by omega)
      have HBd := Lib.hid hbl
      have hdl : (bv d).length ≤ 1099511627776 := by omega
      clear hE hM hover hbl
      go_wp2_with fail
      obtain ⟨w3, hw3⟩ : ∃ w3, w3 = w2.setCell ⟨w.heap.size, 8, none⟩ (.int .u64 (M : Int)) := ⟨_, rfl⟩
      rw [← hw3]
      have hHS3 : w3.heap[w.heap.size]? = some (.cells (shaArr s M (.slice ao (bv rest).length cap)) 37 (0, 0)) := by
        rw [hw3, heap_setCell_same w2 w.heap.size 8 _ _ _ HS2.out]; rfl
      have hB3 : Below w.heap.size w w3 := by rw [hw3]; exact (HB.out.trans (Below.mono HA2.out (by omega))).setCell (Nat.le_refl _) _
      have hO3 : w3.heap[w.heap.size + 1]? = some (.cells zero10 37 (0, 0)) := by
        rw [hw3, Below.heap_setCell _ _ _ _ (by simp)]; exact Aft.get HA2.out HO.out
      have hD3 : Rd w3 (.slice a2 (bv d).length c2) (bv d) := by
        rw [hw3]; exact (Rd.of_own HO2.out).setCell (fun g hg _ => by have := (own_lt HO2.out hg).1; simp only; omega) _
      have hsz3 : w.heap.size + 1 < w3.heap.size := heap_lt hO3
      have HS3 := Lib.hid hHS3
      have HB3 := Lib.hid hB3
      have HO3 := Lib.hid hO3
      have HD3 := Lib.hid hD3
      clear hHS3 hB3 hO3 hD3 hw3 g8 g9 f8
      refine (copy_any _ rest w3 (HR.out.grow HB3.out) (by have := HL.out; omega)).mono ?_
      rintro e w4 ⟨a4, c4, rfl, ho4, hb4⟩
      have HO4 := Lib.hid ho4
      have HA4 := Lib.hid (show Aft w3 w4 from hb4)
      have HD4 := Lib.hid (HD3.out.grow hb4)
      have HLd := Lib.hid hps
      have HBl := Lib.hid (bv_length rest)
      clear ho4 hb4 hNN hover' hps hdl
      go_wp2_with ((at_builtin; refine wpList_append_rd rfl _ _ 25 rfl w3.heap.size 5 (.int .u8 0) 1 Tryd.underlying25 info_byte rfl (.slice a4 (bv rest).length c4) (.slice a2 (bv d).length c2) (bv rest) (bv d) rfl rfl HO4.out HD4.out (bv_one _) (by have := HL.out; have := HLd.out; have := HBl.out; have := HBd.out; omega) (by have := HL.out; have := HLd.out; have := HBl.out; have := HBd.out; omega) (Below.size HA4.out) ?_; intro v5 w5 k1 k2 k3; have HO5 := Lib.hid (show w5.ownsRow w3.heap.size 5 1 v5 (bv (rest ++ d)).length (bv (rest ++ d)) by rw [bv_append]; exact k1); have HA5 := Lib.hid (show Aft w3 w5 from (show Below w3.heap.size w3 w4 from HA4.out).grown k2 (Below.size HA4.out) (fun g hg => (own_lt HO4.out hg).1)); clear k1 k2 k3))
      have HS5 := Lib.hid (Aft.get HA5.out HS3.out)
      have HO5z := Lib.hid (Aft.get HA5.out HO3.out)
      have hbl : (rest ++ d).length ≤ 2199023255552 := by have := HL.out; have := HLd.out; rw [List.length_append]; omega
      generalize rest ++ d = b at *
      have ho5 := HO5.out
      obtain ⟨a5, c5, rfl⟩ := own_shape ho5
      have HLf := Lib.hid (show Left w5 w.heap.size (.slice a5 (bv b).length c5) (bv b).length c5 a5 b from ⟨rfl, Rd.of_own ho5, fun g hg => by have := (own_lt ho5 hg).1; omega⟩)
      have HBb := Lib.hid hbl
      clear ho5 hbl
      go_loopw [6] (fun v6 wx => ∃ j : Nat, 64 * j ≤ b.length ∧ (∃ n cx ax, Left w5 w.heap.size v6 n cx ax (b.drop (64 * j))) ∧ wx.heap[w.heap.size]? = some (.cells (shaArr (absorb K0 j s b) M (.slice ao (bv rest).length cap)) 37 (0, 0)) ∧ Fr (fun k => k = w.heap.size) w5 wx) (fun v _ => lenV v)
      case atStart => exact ⟨0, by omega, ⟨_, _, _, HLf.out⟩, HS5.out, Fr.refl _ _⟩
      case round =>
        obtain ⟨j, hj, ⟨n, cx, ax, hlf⟩, hv, hf⟩ := hrel
        obtain rfl := hlf.1
        have hs := hlf.2.1.sl
        rw [bv_length, List.length_drop] at hs
        have HLj := Lib.hid hlf
        have HV := Lib.hid hv
        have HFx := Lib.hid hf
        have HW := Lib.hid (show Below w.heap.size w wr from HB3.out.trans ((Below.mono HA5.out (by omega)).trans (hf.below (by have := Below.size HA5.out; omega) (fun k hk => by omega))))
        clear hlf hv hf
        obtain ⟨hs1, hs2, hs3⟩ := hs
        have HSn := Lib.hid hs1
        clear hs1
        by_cases hlt : 64 ≤ n
        · have hlt' : (64 : Int) ≤ (n : Int) := by omega
          have h64 : 64 ≤ (b.drop (64 * j)).length := by rw [List.length_drop, ← HSn.out]; exact hlt
          obtain ⟨gb, ob, rfl, hrb, hgb⟩ := HLj.out.head h64
          have HNx := Lib.hid (HLj.out.next h64)
          have HRb := Lib.hid (show Rd wr (.slice (some ⟨gb, ob, none⟩) 64 cx) (bv (blk b j)) from hrb.fr HFx.out (fun g hg _ => by simp only [Value.ownBlock, Option.some.injEq] at hg; omega))
          have HCut := Lib.hid (fun wx => run_cut64 (ao := some ⟨gb, ob, none⟩) (len := n) (cap := cx) (by have := HSn.out; omega) wx)
          have HDr := Lib.hid (fun wx => run_drop64 (ao := some ⟨gb, ob, none⟩) (len := n) (cap := cx) hlt wx)
          have HAb := Lib.hid (absorb_blk K0 s b j)
          have HBlk := Lib.hid (blk_length (b := b) (j := j) (by have := HSn.out; omega))
          have HDd := Lib.hid (show (b.drop (64 * j)).drop 64 = b.drop (64 * (j + 1)) by rw [List.drop_drop]; congr 1)
          have HJl := Lib.hid (show 64 * (j + 1) ≤ b.length by have := HSn.out; omega)
          clear hrb h64
          generalize blk b j = bj at *
          generalize hs1 : absorb K0 (j + 1) s b = s1 at *
          have HS1 := Lib.hid hs1
          clear hs1
          generalize absorb K0 j s b = s0 at *
          go_wp2_with fail
          refine wp_region_lexF (fun i => ([0, 0, 0, 0, 2, 0] : List Nat).getD i 0) 6 (by kernel_rfl) (by kernel_rfl) ?_; intro wi hwi
          have HWi := Lib.hid (show Aft wr wi by rw [hwi]; exact (Below.refl _ _).drew)
          clear hwi
          refine lf_quiet rfl (by go_big_quiet_want; exact quiet_false (by assumption)) (by kernel_rfl) rfl ?_; intro Kx hKx; go_big_quiet_op; go_big_quiet_on
          refine lf_load_st rfl (by kernel_rfl) (.tmp 36) rfl w.heap.size rfl s0 M _ (Aft.get HWi.out HV.out) ?_
          simp only [Act.put, List.setIfInBounds_toArray, List.set_cons_succ, List.set_cons_zero]
          have hcut := HCut.out
          repeat (first | (refine lf_skip (by go_big_quiet_skip; exact wpQuiet_nil trivial) (by kernel_rfl) ?_; simp only [Act.put, List.setIfInBounds_toArray, List.set_cons_succ, List.set_cons_zero]) | (refine lf_quiet rfl (by go_big_quiet_want; exact quiet_false (by assumption)) (by kernel_rfl) rfl ?_; intro Kx hKx; go_big_quiet_op; go_big_quiet_on))
          clear hcut
          refine lf_eff rfl (by go_big_quiet_want; exact quiet_false (by assumption)) (by kernel_rfl) ?_; intro wl hl Kx hKx; go_wp2_with fail
          have hlw := (show Aft wr wl from Aft.trans HWi.out hl)
          refine (block_any s0 gb ob 64 cx bj wl (TabK_fr HK.out (Fr.of_below (S := fun _ => False) (HW.out.trans (Below.mono hlw (Below.size HW.out)))) (fun h => h)) (HRb.out.grow hlw) (by rw [HBlk.out]; omega)).mono ?_
          rintro e wm ⟨rfl, hm⟩
          rw [HAb.out]
          have HM := Lib.hid (show Aft wr wm from Aft.trans hlw hm)
          go_wp2_with fail
          refine ⟨hm, ?_⟩
          clear hm hl hlw
          repeat (first | (refine lf_skip (by go_big_quiet_skip; exact wpQuiet_nil trivial) (by kernel_rfl) ?_; simp only [Act.put, List.setIfInBounds_toArray, List.set_cons_succ, List.set_cons_zero]) | (refine lf_quiet rfl (by go_big_quiet_want; exact quiet_false (by assumption)) (by kernel_rfl) rfl ?_; intro Kx hKx; go_big_quiet_op; go_big_quiet_on))
          refine lf_done ?_
          intro wn1 hn1
          have HN := Lib.hid (show Aft wr wn1 from Aft.trans HM.out hn1)
          have HVn := Lib.hid (Aft.get HN.out HV.out)
          have HFn := Lib.hid (HFx.out.trans (Fr.of_below HN.out))
          clear hn1
          have hdr := HDr.out
          go_wp2_with ((refine wpList_store_st rfl (.tmp 41) (.tmp 40) rfl w.heap.size s0 s1 M _ rfl rfl HVn.out ?_; intro wp q2 q3; have HVp := Lib.hid q2.out; have HFp := Lib.hid (HFn.out.trans q3.out); clear q2 q3))
          go_roundw
          case rel => exact ⟨j + 1, HJl.out, ⟨_, _, _, by rw [← HDd.out]; exact HNx.out⟩, by rw [HS1.out]; exact HVp.out, HFp.out⟩
          case measure => simp [lenV]; omega
        · have hjl : j = b.length / 64 := by have := HSn.out; omega
          have hlt' : ¬ (64 : Int) ≤ (n : Int) := by omega
          subst hjl
          have HRv := Lib.hid (show Rd wr (.slice ax n cx) (bv (restOf b)) from HLj.out.2.1.fr HFx.out (fun g hg _ => by have := HLj.out.2.2 g hg; omega))
          have HOw := Lib.hid (show ∀ g, (Value.slice ax n cx).ownBlock = some g → w.heap.size + 1 < g from HLj.out.2.2)
          have HE2 := Lib.hid (show (absorb K0 (b.length / 64) s b, M, restOf b, (0 : Int)) = wrote K0 s N rest ps.flatten from HE.out)
          clear HE
          generalize absorb K0 (b.length / 64) s b = st at *
          generalize restOf b = rs at *
          obtain ⟨g0, g1, g2, g3, g4, g5, g6, g7, g8, g9⟩ := sha_all (sha_row HV.out)
          have f9 := World.rowIs.frozen (sha_row HV.out) 9
          have HOf := Lib.hid ((HFx.out.block (w.heap.size + 1) (heap_lt HO5z.out) (by omega)).trans HO5z.out)
          have HZ := Lib.hid (show (wr.setCell ⟨w.heap.size, 9, none⟩ (.slice ax n cx)).heap[w.heap.size + 1]? = some (.cells zero10 37 (0, 0)) by rw [Below.heap_setCell _ _ _ _ (by simp)]; exact HOf.out)
          have HBz := Lib.hid (show Below w.heap.size w (wr.setCell ⟨w.heap.size, 9, none⟩ (.slice ax n cx)) from HW.out.setCell (Nat.le_refl _) _)
          have HRz := Lib.hid (show Rd (wr.setCell ⟨w.heap.size, 9, none⟩ (.slice ax n cx)) (.slice ax n cx) (bv rs) from HRv.out.setCell (fun g hg _ => by have := HOw.out g hg; simp only; omega) _)
          have HOs := Lib.hid (show ∀ g, (Value.slice ax n cx).ownBlock = some g → bv rs ≠ [] → g ≠ w.heap.size + 1 from fun g hg _ => by have := HOw.out g hg; omega)
          go_wp2_with ((refine wpList_store_sha rfl (.tmp 4) (.tmp 46) rfl (w.heap.size + 1) #[.int .u32 (wn st.a), .int .u32 (wn st.b), .int .u32 (wn st.c), .int .u32 (wn st.d), .int .u32 (wn st.e), .int .u32 (wn st.f), .int .u32 (wn st.g), .int .u32 (wn st.h), .int .u64 (M : Int), .slice ax n cx] rfl rfl rfl (by kernel_rfl) zero10 rfl HZ.out ?_; intro w9 q2 q3 q4))
          refine bodyPost_ret (results_cell_tmp rfl _ _ (w.heap.size + 1) 37 #[.int .u32 (wn st.a), .int .u32 (wn st.b), .int .u32 (wn st.c), .int .u32 (wn st.d), .int .u32 (wn st.e), .int .u32 (wn st.f), .int .u32 (wn st.g), .int .u32 (wn st.h), .int .u64 (M : Int), .slice ax n cx] (0, 0) _ rfl q2.out Tryd.underlying37 rfl hs10) rfl ?_
          exact ⟨st, M, rs, 0, HE2.out, .slice ax n cx, rfl, HRz.out.keep fun g hg hx _ => q4.out g (HOs.out g hg hx), q3 _ _ (by omega) HBz.out⟩
    · have hover' : (1099511627776 : Int) < (N : Int) + ((bv d).length : Nat) := by omega
      have hw : (zeroSt, 0, [], (4 : Int)) = wrote K0 s N rest ps.flatten := by rw [← HDf.out]; unfold wrote; rw [if_pos hc, if_neg hover]
      have HBx := Lib.hid (show Below w.heap.size w w2 from HB.out.trans (Below.mono HA2.out (by omega)))
      have HOx := Lib.hid (Aft.get HA2.out HO.out)
      clear hover
      go_wp2_with ((refine wpList_store_sha rfl (.tmp 4) (.tmp 20) rfl (w.heap.size + 1) zero10 rfl rfl rfl (by kernel_rfl) zero10 rfl HOx.out ?_; intro w3 q2 q3 _))
      refine bodyPost_ret (results_cell_tmp rfl _ _ (w.heap.size + 1) 37 zero10 (0, 0) _ rfl q2.out Tryd.underlying37 rfl hs10) rfl ?_
      exact ⟨zeroSt, 0, [], 4, .slice none 0 0, hw, rfl, Rd.nil _, q3 _ _ (by omega) HBx.out⟩
  · have hw : (zeroSt, 0, [], (1 : Int)) = wrote K0 s N rest ps.flatten := by unfold wrote; rw [if_neg (by rw [hc]; decide)]
    go_wp2_with ((refine wpList_store_sha rfl (.tmp 4) (.tmp 10) rfl (w.heap.size + 1) zero10 rfl rfl rfl (by kernel_rfl) zero10 rfl HO.out ?_; intro w3 q2 q3 _))
    refine bodyPost_ret (results_cell_tmp rfl _ _ (w.heap.size + 1) 37 zero10 (0, 0) _ rfl q2.out Tryd.underlying37 rfl hs10) rfl ?_
    exact ⟨zeroSt, 0, [], 1, .slice none 0 0, hw, rfl, Rd.nil _, q3 _ _ (by omega) HB.out⟩
end Go.Proofs.YtifehfcgmodmaaaDoor
