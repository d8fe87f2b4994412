import Derived.Test.YtifehfcgmodmaaaDoorA3
import Derived.Laws.CopyOwn
/- law02.ShaRest, walked whole. -/
namespace Go.Proofs.YtifehfcgmodmaaaDoor
open Go Go.RowKit
theorem bv_nilN : (bv ([] : List (BitVec 8))).length = 0 := rfl
theorem write_ok (K : Nat → BitVec 32) (s : St) (N : Nat) (vr vp : Value) (rest : List (BitVec 8)) (ps : List (List (BitVec 8))) (w : World) (hK : TabK K 1 w) (hrd : Rd w vr (bv rest)) (hp : RdAll w vp ps)
    (hc : chk s N (bv rest).length = 0) (h3 : N + ps.flatten.length ≤ 1099511627776) :
    Calls Tryd.prog 27 #[.agg #[.int .u32 (wn s.a), .int .u32 (wn s.b), .int .u32 (wn s.c), .int .u32 (wn s.d), .int .u32 (wn s.e), .int .u32 (wn s.f), .int .u32 (wn s.g), .int .u32 (wn s.h), .int .u64 (N : Int), vr], vp] w fun e w' =>
      ∃ st N' rs ao cap, st = shaSt K s (rest ++ ps.flatten) ∧ N' = N + ps.flatten.length ∧ rs = restOf (rest ++ ps.flatten) ∧ e = .returned (.tuple #[.agg #[.int .u32 (wn st.a), .int .u32 (wn st.b), .int .u32 (wn st.c), .int .u32 (wn st.d), .int .u32 (wn st.e), .int .u32 (wn st.f), .int .u32 (wn st.g), .int .u32 (wn st.h), .int .u64 (N' : Int), .slice ao (bv rs).length cap], .int .i64 0]) ∧
        w'.ownsRow w.heap.size 5 1 (.slice ao (bv rs).length cap) (bv rs).length (bv rs) ∧ Below w.heap.size w w' := by
  obtain ⟨c1, c2, c3⟩ := chk_ok hc
  rw [bv_length] at c2
  refine (write_any K s N vr vp rest ps w hK hrd hp (by omega) (by omega) (by omega)).mono ?_
  rintro e w' ⟨st, N', rs, er, vr', hw, rfl, ho, hb⟩
  unfold wrote at hw
  rw [if_pos hc, if_pos h3] at hw
  simp only [Prod.mk.injEq] at hw
  obtain ⟨h1, h2, h3, rfl⟩ := hw
  obtain ⟨ao, cap, rfl⟩ := own_shape ho
  exact ⟨st, N', rs, ao, cap, h1, h2, h3, rfl, ho, hb⟩
theorem iv_chk : chk iv 0 (bv ([] : List (BitVec 8))).length = 0 := chk_mk (by omega) rfl (fun _ => rfl)
/-- The whole blocks of a text leave nothing, and come to the same state. -/
theorem shaSt_whole (K : Nat → BitVec 32) (s : St) (d : List (BitVec 8)) (n : Nat) (hn : n = d.length / 64 * 64) : shaSt K s (d.take n) = shaSt K s d ∧ restOf (d.take n) = [] ∧ restOf d = d.drop n := by
  subst hn
  have h : (d.take (d.length / 64 * 64)).length / 64 = d.length / 64 := by rw [List.length_take]; omega
  refine ⟨?_, ?_, ?_⟩
  · unfold shaSt
    rw [h]
    conv => rhs; rw [← List.take_append_drop (d.length / 64 * 64) d]
    rw [List.length_append, List.length_take, List.length_drop, absorb_append _ _ _ _ _ (by rw [List.length_take]; omega)]
    congr 1
    omega
  · apply List.eq_nil_of_length_eq_zero
    rw [restOf_length, List.length_take]
    omega
  · unfold restOf
    rw [Nat.mul_comm]
theorem wrap64_mid {z : Int} (h0 : 0 ≤ z) (h1 : z < 9223372036854775808) : wrap64 z = z := by
  unfold wrap64
  omega
theorem whole_of (m : Nat) (h : m ≤ 4000) : wrap64 (wrap64 ((m : Int) / 64) * 64) = ((m / 64 * 64 : Nat) : Int) := by
  rw [wrap64_mid (z := (m : Int) / 64) (by omega) (by omega), wrap64_mid (by omega) (by omega)]
  omega
theorem RdAll.blk {w : World} {v : Value} {g : Nat} {t : TypeId} {fr : Nat × Nat} {l : List (BitVec 8)} (hg : w.heap[g]? = some (.cells #[v] t fr)) (h : Rd w v (bv l)) : RdAll w (.slice (some ⟨g, 0, none⟩) 1 1) [l] := by
  refine ⟨[v], ⟨some ⟨g, 0, none⟩, 1, rfl, Nat.le_refl _, by omega, (fun h => by cases h), fun ad ha j u hu => ?_⟩, rfl, fun i u hu => ?_⟩
  · cases ha
    cases j with
    | zero => cases hu; simp [World.cell?, hg, Addr.add]
    | succ j => simp at hu
  · cases i with
    | zero => cases hu; exact h
    | succ i => simp at hu
set_option maxRecDepth 100000 in
set_option maxHeartbeats 4000000 in
theorem shaRest_any (va vb : Value) (b more : List (BitVec 8)) (w : World) (hK : TabK K0 1 w) (hra : Rd w va (bv b)) (hrb : Rd w vb (bv more)) :
    Calls Tryd.prog 5 #[va, vb] w fun e w' => e = .returned (.bool true) ∧ Below w.heap.size w w' := by
  have HK := Lib.hid hK
  have HA := Lib.hid hra
  have HB := Lib.hid hrb
  obtain ⟨aoa, capa, rfl, -, -, -, -⟩ := hra
  obtain ⟨aob, capb, rfl, -, -, -, -⟩ := hrb
  clear hK
  have HL := Lib.hid (live2_any w HK.out)
  go_enter Tryd.func5, Tryd.ntmps5
  go_wp2_with fail
  refine HL.out.mono ?_
  rintro e w1 ⟨rfl, hb1⟩
  by_cases h1 : (bv b).length > 2000
  · have h1' : (2000 : Int) < ((bv b).length : Nat) := by omega
    go_wp2_with fail
    go_ret
    exact ⟨rfl, hb1⟩
  · have h1' : ¬ (2000 : Int) < ((bv b).length : Nat) := by omega
    by_cases h2 : (bv more).length > 2000
    · have h2' : (2000 : Int) < ((bv more).length : Nat) := by omega
      go_wp2_with fail
      go_ret
      exact ⟨rfl, hb1⟩
    · have h2' : ¬ (2000 : Int) < ((bv more).length : Nat) := by omega
      have HB1 := Lib.hid hb1
      clear hb1
      go_wp2_with fail
      refine (new_any' _).mono ?_
      rintro e w2 ⟨rfl, hb2⟩
      have hb02 := HB1.out.trans (hb2.mono HB1.out.size)
      have HB2 := Lib.hid hb02
      clear hb2 hb02
      go_wp2_with fail
      have hlb : b.length ≤ 2000 := by rw [bv_length] at h1; omega
      have hlm : more.length ≤ 2000 := by rw [bv_length] at h2; omega
      have hba : Below w2.heap.size w2 (w2.alloc (.cells #[.slice aoa (bv b).length capa] 25)) := (Below.refl _ _).alloc (Nat.le_refl _) _
      have hbb := HB2.out.trans (hba.mono HB2.out.size)
      refine (write_ok K0 iv 0 _ _ [] [b] _ (TabK_fr HK.out (Fr.of_below (S := fun _ => False) hbb) (fun h => h)) (Rd.nil _) (RdAll.one w2 _ b _ (HA.out.grow HB2.out)) iv_chk (by simp; omega)).mono ?_
      rintro e w3 ⟨st1, N1, rs1, a1, c1, e1, e2, e3, rfl, ho1, hb3⟩
      have HB3 := Lib.hid (hbb.trans (hb3.mono hbb.size))
      have HO1 := Lib.hid ho1
      have HS3 := Lib.hid (heap_alloc_new w3 (.cells zero10 37))
      have hN1 : N1 ≤ 2000 := by rw [e2]; simp; omega
      have hc1 : chk st1 N1 (bv rs1).length = 0 := by rw [e1, e2, e3]; exact wrote_chk iv_chk (by simp; omega)
      have HC1 := Lib.hid hc1
      have E1 := Lib.hid e1
      have E2 := Lib.hid e2
      have E3 := Lib.hid e3
      clear hba hbb hb3 ho1 e1 e2 e3 hc1
      go_wp2_with ((refine wpList_store_sha rfl (.tmp 6) (.tmp 31) rfl w3.heap.size #[.int .u32 (wn st1.a), .int .u32 (wn st1.b), .int .u32 (wn st1.c), .int .u32 (wn st1.d), .int .u32 (wn st1.e), .int .u32 (wn st1.f), .int .u32 (wn st1.g), .int .u32 (wn st1.h), .int .u64 (N1 : Int), .slice a1 (bv rs1).length c1] rfl rfl rfl (by kernel_rfl) zero10 rfl HS3.out ?_; intro w4 q2 q3 q4; have hq2 := q2.out; have hR4 := sha_row (s := st1) (N := N1) (vr := .slice a1 (bv rs1).length c1) hq2; obtain ⟨g0, g1, g2, g3, g4, g5, g6, g7, g8, g9⟩ := sha_all hR4; have HB4 := Lib.hid (q3 w.heap.size w HB3.out.size (HB3.out.alloc HB3.out.size _)); have HR4 := Lib.hid hR4; clear q3 hR4 hq2))
      have hl4 : w3.heap.size < w4.heap.size := HR4.out.lt
      have hba : Below w4.heap.size w4 (w4.alloc (.cells #[.slice aob (bv more).length capb] 25)) := (Below.refl _ _).alloc (Nat.le_refl _) _
      have hbb := HB4.out.trans (hba.mono HB4.out.size)
      have HRd1 := Lib.hid ((Rd.of_own HO1.out).keep (w' := w4) fun g _ _ hlt => (q4.out g (by omega)).trans (Below.heap_alloc _ _ _ hlt))
      clear g0 g1 g2 g3 g4 g5 g6 g7 g8 g9
      refine (write_ok K0 st1 N1 _ _ rs1 [more] _ (TabK_fr HK.out (Fr.of_below (S := fun _ => False) hbb) (fun h => h)) (HRd1.out.grow hba) (RdAll.one w4 _ more _ (HB.out.grow HB4.out)) HC1.out (by simp; omega)).mono ?_
      rintro e w5 ⟨st2, N2, rs2, a2, c2, e1, e2, e3, rfl, ho2, hb5⟩
      have HB5 := Lib.hid (hbb.trans (hb5.mono hbb.size))
      have HO2 := Lib.hid ho2
      have HS5 := Lib.hid (heap_alloc_new w5 (.cells zero10 37))
      have hN2 : N2 = b.length + more.length := by rw [e2, E2.out]; simp
      have HN2 := Lib.hid hN2
      have ht2 : st2 = shaSt K0 iv (b ++ more) ∧ rs2 = restOf (b ++ more) := by
        rw [e1, e3, E1.out, E3.out]
        have := sha_step K0 iv b more
        simp only [List.nil_append, List.flatten_cons, List.flatten_nil, List.append_nil]
        exact this
      obtain ⟨ht, hr⟩ := ht2
      have HT2 := Lib.hid ht
      have HR2 := Lib.hid hr
      have hl45 : w4.heap.size ≤ w5.heap.size := (hba.trans (hb5.mono hba.size)).size
      clear hba hbb hb5 ho2 e1 e2 e3 ht hr hN2
      have HW6 := Lib.hid (World.ownsRow_nil w5 w.heap.size 5 1)
      go_wp2_with (first
        | (refine wpList_store_sha rfl (.tmp 8) (.tmp 38) rfl w5.heap.size #[.int .u32 (wn st2.a), .int .u32 (wn st2.b), .int .u32 (wn st2.c), .int .u32 (wn st2.d), .int .u32 (wn st2.e), .int .u32 (wn st2.f), .int .u32 (wn st2.g), .int .u32 (wn st2.h), .int .u64 (N2 : Int), .slice a2 (bv rs2).length c2] rfl rfl rfl (by kernel_rfl) zero10 rfl HS5.out ?_; intro w6 q5 q6 q7; have hq5 := q5.out; have hR6 := sha_row (s := st2) (N := N2) (vr := .slice a2 (bv rs2).length c2) hq5; have HB6 := Lib.hid (q6 w.heap.size w HB5.out.size (HB5.out.alloc HB5.out.size _)); have HR6 := Lib.hid hR6; have HRd2 := Lib.hid ((Rd.of_own HO2.out).keep (w' := w6) fun g _ _ hlt => (q7.out g (by omega)).trans (Below.heap_alloc _ _ _ hlt)); have HO6 := Lib.hid (World.ownsRow_nil w6 w6.heap.size 5 1); clear q6 hR6 hq5)
        | (at_builtin; refine wpList_append_rd rfl _ _ 25 rfl w6.heap.size 5 (.int .u8 0) 1 Tryd.underlying25 info_byte rfl (.slice none 0 0) (.slice aoa (bv b).length capa) [] (bv b) rfl rfl HO6.out (HA.out.grow HB6.out) (bv_one _) (by simp [bv_length]; omega) (by simp [bv_length]; omega) (Nat.le_refl _) ?_; intro v7 w7 k1 k2 k3; have HB7 := Lib.hid ((Below.refl w6.heap.size w6).grown k2 (Nat.le_refl _) (by simp [Value.ownBlock])); have HO7 := Lib.hid (show w7.ownsRow w6.heap.size 5 1 v7 (bv b).length (bv b) from k1); have HV7 := Lib.hid k3; clear k1 k2 k3)
        | (at_builtin; refine wpList_append_rd rfl _ _ 25 rfl w6.heap.size 5 (.int .u8 0) 1 Tryd.underlying25 info_byte rfl v7 (.slice aob (bv more).length capb) (bv b) (bv more) rfl rfl HO7.out (HB.out.grow (HB6.out.trans (HB7.out.mono HB6.out.size))) (bv_one _) (by simp [bv_length]; omega) (by simp [bv_length]; omega) HB7.out.size ?_; intro v8 w8 k1 k2 k3; have HB8 := Lib.hid (HB7.out.grown k2 (HB7.out.size) (fun g hg => (own_lt HO7.out hg).1)); have k4 : w8.ownsRow w6.heap.size 5 1 v8 (bv (b ++ more)).length (bv (b ++ more)) := (by rw [bv_append]; exact k1); obtain ⟨a8, c8, rfl⟩ := own_shape k4; have HO8 := Lib.hid k4; clear k1 k2 k3 k4))
      generalize hd : b ++ more = d at *
      have hdl : d.length = b.length + more.length := by rw [← hd, List.length_append]
      clear hd
      have hdl2 : (bv d).length = d.length := bv_length d
      generalize hn : d.length / 64 * 64 = n
      have hw : wrap64 (wrap64 (((bv d).length : Nat) / 64 : Int) * 64) = (n : Nat) := by
        rw [hdl2, whole_of d.length (by omega), hn]
      rw [hw]
      have HRd8 := Lib.hid (Rd.of_own HO8.out)
      have hsl8 := HRd8.out.sl
      obtain ⟨iB, hiB, -, hiz, -⟩ := info_parts info_byte
      have hcut := fun wx => cut_to (P := Tryd.prog) (ao := a8) (len := (bv d).length) (cap := c8) (n := n) Tryd.underlying25 (by omega) wx hiB
      have HRdn := Lib.hid (HRd8.out.to (n := n) (by omega))
      have HB8' := Lib.hid (HB6.out.trans (HB8.out.mono HB6.out.size))
      have hnd : n ≤ d.length ∧ n ≤ (bv d).length := by omega
      have HDL := Lib.hid hdl
      have HDL2 := Lib.hid hdl2
      have HND := Lib.hid hnd
      have HN := Lib.hid hn
      have HLN := Lib.hid (show d.length ≤ 4000 by omega)
      clear hw hdl hdl2 hsl8 hnd hn
      refine wp_region_lexF (fun i => ([2, 0, 0, 0, 1, 2, 0, 0, 0, 1, 3, 0] : List Nat).getD i 0) 12 (by kernel_rfl) (by kernel_rfl) ?_; intro wr hwr
      have HBr := Lib.hid (show Below w.heap.size w wr by rw [hwr]; exact HB8'.out.drew)
      have H8r := Lib.hid (show Aft w8 wr by rw [hwr]; exact (Below.refl _ _).drew)
      clear hwr
      refine lf_eff rfl (by go_big_quiet_want; exact quiet_false (by assumption)) (by kernel_rfl) ?_; intro wa ha Kx hKx; go_wp2_with fail
      refine (new_any' _).mono ?_
      rintro e wb ⟨rfl, hb⟩
      go_wp2_with fail
      refine ⟨hb, ?_⟩
      have Hb := Lib.hid (Aft.trans ha hb)
      clear ha hb
      repeat (first | (refine lf_skip (by go_big_quiet_skip; exact wpQuiet_nil trivial) (by kernel_rfl) ?_; simp only [Act.put, List.setIfInBounds_toArray, List.set_cons_succ, List.set_cons_zero]) | (refine lf_quiet rfl (by go_big_quiet_want; exact quiet_false (by assumption)) (by kernel_rfl) rfl ?_; intro Kx hKx; go_big_quiet_op; go_big_quiet_on))
      refine lf_fresh (.cells #[.slice a8 n c8] 25) (fun g => .slice (some ⟨g, 0, none⟩) 1 1) rfl (by kernel_rfl) (fun w1 => by kernel_rfl) ?_
      intro wc gc hc1 hc2 hc3
      simp only [Act.put, List.setIfInBounds_toArray, List.set_cons_succ, List.set_cons_zero]
      have Hc := Lib.hid (Aft.trans Hb.out hc1)
      have HC3 := Lib.hid hc3
      clear hc1 hc2 hc3
      refine lf_eff rfl (by go_big_quiet_want; exact quiet_false (by assumption)) (by kernel_rfl) ?_; intro wd hd Kx hKx; go_wp2_with fail
      have Hd := Lib.hid (Aft.trans Hc.out hd)
      have HBd := Lib.hid (show Below w.heap.size w wd from Aft.trans HBr.out Hd.out)
      have hlen8 : (bv (d.take n)).length = n := by rw [bv_length, List.length_take]; have := HND.out; omega
      have HRn := Lib.hid (show Rd wd (.slice a8 n c8) (bv (d.take n)) by have := HRdn.out.grow (Aft.trans H8r.out Hd.out); rw [← bv_take] at this; exact this)
      refine (write_ok K0 iv 0 _ _ [] [d.take n] _ (TabK_fr HK.out (Fr.of_below (S := fun _ => False) HBd.out) (fun h => h)) (Rd.nil _) (RdAll.blk (hd.get HC3.out) HRn.out) iv_chk (by simp; have := HLN.out; omega)).mono ?_
      rintro e we ⟨st3, N3, rs3, a3, c3, e1, e2, e3, rfl, ho3, hb3⟩
      have He := Lib.hid (Aft.trans Hd.out hb3)
      have E1 := Lib.hid e1
      have E3 := Lib.hid e3
      clear hd e1 e2 e3
      go_wp2_with fail
      refine ⟨hb3, ?_⟩
      clear hb3
      repeat (first | (refine lf_skip (by go_big_quiet_skip; exact wpQuiet_nil trivial) (by kernel_rfl) ?_; simp only [Act.put, List.setIfInBounds_toArray, List.set_cons_succ, List.set_cons_zero]) | (refine lf_quiet rfl (by go_big_quiet_want; exact quiet_false (by assumption)) (by kernel_rfl) rfl ?_; intro Kx hKx; go_big_quiet_op; go_big_quiet_on))
      refine lf_fresh (.cells zero10 37) (fun g => .pointer (some ⟨g, 0, none⟩)) rfl (by kernel_rfl) (fun w1 => by kernel_rfl) ?_
      intro wf gf hf1 hf2 hf3
      simp only [Act.put, List.setIfInBounds_toArray, List.set_cons_succ, List.set_cons_zero]
      have Hf := Lib.hid (Aft.trans He.out hf1)
      have HBf := Lib.hid (show Below w.heap.size w wf from Aft.trans HBr.out Hf.out)
      refine lf_store rfl (by kernel_rfl) 37 (.tmp 12) (.tmp 55) rfl gf #[.int .u32 (wn st3.a), .int .u32 (wn st3.b), .int .u32 (wn st3.c), .int .u32 (wn st3.d), .int .u32 (wn st3.e), .int .u32 (wn st3.f), .int .u32 (wn st3.g), .int .u32 (wn st3.h), .int .u64 (N3 : Int), .slice a3 (bv rs3).length c3] rfl rfl _ zero10 Hf.out hf2 hf3 (by kernel_rfl) rfl (by kernel_rfl) ?_
      intro wg hg1 hg2 hg3
      simp only [Act.put]
      repeat (first | (refine lf_skip (by go_big_quiet_skip; exact wpQuiet_nil trivial) (by kernel_rfl) ?_; simp only [Act.put, List.setIfInBounds_toArray, List.set_cons_succ, List.set_cons_zero]) | (refine lf_quiet rfl (by go_big_quiet_want; exact quiet_false (by assumption)) (by kernel_rfl) rfl ?_; intro Kx hKx; go_big_quiet_op; go_big_quiet_on))
      refine lf_done ?_
      intro wh hwh
      go_wp2_with fail
      clear hlen8
      have hwl := shaSt_whole K0 iv d n HN.out.symm
      have hrs3 : rs3 = [] := by rw [E3.out]; simpa using hwl.2.1
      have hst3 : st3 = st2 := by rw [E1.out, HT2.out]; simpa using hwl.1
      have hN2 : N2 = (bv d).length := by rw [HN2.out, HDL2.out, HDL.out]
      have hrs2 : rs2 = d.drop n := by rw [HR2.out]; exact hwl.2.2
      subst hrs3 hst3 hN2 hrs2
      obtain ⟨ax, hcf, hrdx⟩ := cut_from_ex (P := Tryd.prog) Tryd.underlying25 hiB hiz HRd8.out (n := n) HND.out.2
      clear hcut
      have heq := run_eq_st st3 st3 _ rfl
      simp only [decide_true] at heq
      have Hw8h := Lib.hid (Aft.trans H8r.out (Aft.trans hg2 hwh))
      have HRX := Lib.hid (show Rd wh (.slice ax ((bv d).length - n) (c8 - n)) (bv (d.drop n)) by rw [bv_drop]; exact hrdx.grow Hw8h.out)
      clear hrdx
      have HG8 := Lib.hid (HR6.out.of_block (Below.block (Aft.trans HB8.out Hw8h.out) _ HR6.out.lt))
      have HGg := Lib.hid (Aft.get hwh hg1.out)
      have HBh := Lib.hid (Aft.trans HBr.out (Aft.trans hg2 hwh))
      clear hg1 hg2 hg3 hwh h1' h2'
      have hL4 : (bv d).length ≤ 4000 := by rw [HDL2.out]; exact HLN.out
      have hb0 := bv_nilN
      refine wp_region_lexF (fun i => ([0, 0, 0, 0, 0, 0, 0, 0, 0, 0, 0, 0, 0, 0, 0, 0, 0, 0, 0, 2] : List Nat).getD i 0) 43 (by kernel_rfl) (by kernel_rfl) ?_; intro wi hwi
      have HBi := Lib.hid (show Aft wh wi by rw [hwi]; exact (Below.refl _ _).drew)
      clear hwi
      have L8 := fun (u : Later wi.heap.size wi) => sha_all (HG8.out.of_block (Below.block (Aft.trans HBi.out u.h) _ HG8.out.lt))
      have Lg := fun (u : Later wi.heap.size wi) => sha_all (sha_row (s := st3) (N := N3) (vr := .slice a3 (bv []).length c3) (Aft.get (Aft.trans HBi.out u.h) HGg.out))
      simp only [forall_and] at L8 Lg
      obtain ⟨e0, e1, e2, e3, e4, e5, e6, e7, e8, e9⟩ := L8
      obtain ⟨f0, f1, f2, f3, f4, f5, f6, f7, f8, f9⟩ := Lg
      repeat (first | (refine lf_skip (by go_big_quiet_skip; exact wpQuiet_nil trivial) (by kernel_rfl) ?_; simp only [Act.put, List.setIfInBounds_toArray, List.set_cons_succ, List.set_cons_zero]) | (refine lf_quiet rfl (by go_big_quiet_want; exact quiet_false (by assumption)) (by kernel_rfl) rfl ?_; intro Kx hKx; go_big_quiet_op; go_big_quiet_on))
      refine lf_eff rfl (by go_big_quiet_want; exact quiet_false (by assumption)) (by kernel_rfl) ?_; intro wj hj Kx hKx; go_wp2_with fail
      refine (same_any _ _ (d.drop n) (d.drop n) wj ?_ ?_).mono ?_
      rotate_left 2
      rintro e wk ⟨rfl, rfl⟩
      go_wp2_with fail
      refine ⟨Aft.refl _, ?_⟩
      repeat (first | (refine lf_skip (by go_big_quiet_skip; exact wpQuiet_nil trivial) (by kernel_rfl) ?_; simp only [Act.put, List.setIfInBounds_toArray, List.set_cons_succ, List.set_cons_zero]) | (refine lf_quiet rfl (by go_big_quiet_want; exact quiet_false (by assumption)) (by kernel_rfl) rfl ?_; intro Kx hKx; go_big_quiet_op; go_big_quiet_on))
      refine lf_done ?_
      intro wl hl
      go_wp2_with fail
      go_ret
      · exact ⟨rfl, Aft.trans HBh.out (Aft.trans HBi.out (Aft.trans hj hl))⟩
      · exact HRd2.out.grow (Aft.trans HB8.out (Aft.trans Hw8h.out (Aft.trans HBi.out hj)))
      · exact HRX.out.grow (Aft.trans HBi.out hj)
end Go.Proofs.YtifehfcgmodmaaaDoor
/- law02.ShaParts, walked whole. -/
namespace Go.Proofs.YtifehfcgmodmaaaDoor
open Go Go.RowKit
def partsInv (w : World) (bs : Nat) (d : List (BitVec 8)) (wr : World) : Prop :=
  ∃ ao cap, wr.rowIs bs 37 10 (shaCells (shaSt K0 iv d) d.length (.slice ao (bv (restOf d)).length cap)) ∧ Rd wr (.slice ao (bv (restOf d)).length cap) (bv (restOf d)) ∧ Below w.heap.size w wr
theorem sha_whole {w : World} {bs : Nat} {s : St} {N : Nat} {vr : Value} (h : w.rowIs bs 37 10 (shaCells s N vr)) : w.heap[bs]? = some (.cells (shaArr s N vr) 37 (0, 0)) := by
  obtain ⟨cs, h1, h2, h3⟩ := h
  rw [h1]
  have : cs = shaArr s N vr := by
    apply Array.ext_getElem?
    intro i
    by_cases hi : i < 10
    · rw [h3 i hi, shaArr_at s N vr i hi]
    · rw [Array.getElem?_eq_none (by omega), Array.getElem?_eq_none (by show 10 ≤ i; omega)]
  rw [this]
theorem iv_chk_any (d : List (BitVec 8)) (h : d.length ≤ 1099511627776) : chk (shaSt K0 iv d) d.length (bv (restOf d)).length = 0 := by
  have := wrote_chk (K := K0) (s := iv) (N := 0) (rest := []) (b := d) iv_chk (by omega)
  simpa using this
theorem flat_step (ps : List (List (BitVec 8))) (i : Nat) (h : i < ps.length) : (ps.take (i + 1)).flatten = (ps.take i).flatten ++ ps.getD i [] := flatten_take_succ ps i h
section
variable {P : Program} {ops : Array Oper} {w0 : World} {Kd : Nat → Nat} {Q : Exit → Act → World → Prop} {n k : Nat} {o : Oper} {l : List Oper} {a : Act} {w : World}
theorem lf_load_row (hk : Kd k = 0) (hw : Region.wanted o (yielded ops a.tmps) = true) (ty : TypeId) (x : Operand) (ho : o.op = .load ty x)
    (g : Nat) (hx : a.eval x = .pointer (some ⟨g, 0, none⟩)) (t : TypeId) (cs : Array Value) (fr : Nat × Nat) (d : TypeDesc) (hg : w0.heap[g]? = some (.cells cs t fr))
    (hu : P.underlying ty = some d) (hd : (match d with | .struct _ | .array _ _ => true | _ => false) = true) (hi : (P.info? ty).map (·.size) = some cs.size)
    (h : wpFx P ops w0 Kd Q n (k + 1) l (a.put o.dst (.agg cs)) w) : wpFx P ops w0 Kd Q (n + 1) k (o :: l) a w := by
  have hup := wpFx_up (P := P) (ops := ops) (w0 := w0) (Kd := Kd) (Q := Q) n (k + 1) l
  simp only [wpFx_succ, stepF, hw, if_true, hk]
  rw [if_neg (by omega)]
  refine ⟨none, fun _ => .agg cs, fun _ => rfl, fun w1 hw1 _ => .inl ?_, fun w1 g hw1 _ => hup _ _ _ hw1 h⟩
  unfold execOp
  simp only [ho, hx, Instr.loadAt, Instr.sureAddr, Sem.run_bind, Sem.run_pure, Result.andThen_ok, run_loadVar_row w1 g t ty cs fr d (hw1.get hg) hu hd hi]
theorem wp_append_rd {K : Act → World → Prop} (s x : Operand) (t : TypeId)
    (ho : o.op = .call { callee := .builtin .append, args := #[s, x], argTypes := #[t, t] })
    (base : Nat) (e : TypeId) (z : Value) (bytes : Nat) (ht : P.underlying t = some (.slice e)) (hinfo : (P.info? e).map (fun i => (i.zero, i.size, i.bytes)) = some (some z, 1, bytes)) (hzs : z.cells.size = 1)
    (v vx : Value) (xs news : List Value) (hs : a.eval s = v) (hx : a.eval x = vx) (hown : w.ownsRow base e 1 v xs.length xs) (hrd : Rd w vx news) (h1 : ∀ u ∈ news, u.oneCell' = true)
    (hbytes : (xs.length + news.length) * bytes ≤ 140737488355328) (hlen : xs.length + news.length ≤ 140737488355328) (hbase : base ≤ w.heap.size)
    (h : ∀ v' w', w'.ownsRow base e 1 v' (xs ++ news).length (xs ++ news) → w.grownBy w' v.ownBlock → K (a.put o.dst v') w') : o.wp P a w K noOut :=
  wp_of_list (ops := #[]) (wpList_append_rd rfl s x t ho base e z bytes ht hinfo hzs v vx xs news hs hx hown hrd h1 hbytes hlen hbase fun v' w' k1 k2 _ => ⟨rfl, h v' w' k1 k2⟩)
end
theorem info_slice : (Tryd.prog.info? 25).map (fun i => (i.zero, i.size, i.bytes)) = some (some (.slice none 0 0), 1, 24) := by kernel_rfl
theorem RdAll.one_cell {w : World} {vs : List Value} {ps : List (List (BitVec 8))} (h : ∀ i v, vs[i]? = some v → Rd w v (bv (ps.getD i []))) : ∀ u ∈ vs, u.oneCell' = true := by
  intro u hu
  obtain ⟨i, hi⟩ := List.getElem?_of_mem hu
  obtain ⟨ao, cap, rfl, _⟩ := h i u hi
  rfl
theorem RdAll.join {w : World} {v : Value} {vs ws : List Value} {ps qs : List (List (BitVec 8))} (h : Rd w v (vs ++ ws)) (h1 : vs.length = ps.length) (h2 : ws.length = qs.length)
    (e1 : ∀ i v, vs[i]? = some v → Rd w v (bv (ps.getD i []))) (e2 : ∀ i v, ws[i]? = some v → Rd w v (bv (qs.getD i []))) : RdAll w v (ps ++ qs) := by
  refine ⟨vs ++ ws, h, by simp [h1, h2], fun i u hu => ?_⟩
  by_cases hi : i < vs.length
  · rw [List.getElem?_append_left hi] at hu
    have := e1 i u hu
    rw [List.getD_eq_getElem?_getD] at this ⊢
    rwa [List.getElem?_append_left (by omega)]
  · rw [List.getElem?_append_right (by omega)] at hu
    have := e2 _ u hu
    rw [List.getD_eq_getElem?_getD] at this ⊢
    rwa [List.getElem?_append_right (by omega), ← h1]
set_option maxRecDepth 100000 in
theorem wpList_store_keyX {ops : Array Oper} {rest : List Oper} {o : Oper} {a : Act} {w : World} {Q : Exit → Act → World → Prop} (hgd : o.guard = none) (x y : Operand) (ho : o.op = .store 28 x y)
    (g : Nat) (X : List (BitVec 8)) (hX : X.length = 32) (hx : a.eval x = .pointer (some ⟨g, 0, none⟩)) (hy : a.eval y = .agg (bv X).toArray)
    (hg : w.heap[g]? = some (.cells key0 28 (0, 0)))
    (h : ∀ w', Hid (w'.heap[g]? = some (.cells (bv X).toArray 28 (0, 0))) → (∀ k w0, k ≤ g → Below k w0 w → Below k w0 w') → wpList Tryd.prog ops Q rest (a.put o.dst undef) w') : wpList Tryd.prog ops Q (o :: rest) a w := by
  have hxl : (bv X).toArray.size = 32 := by rw [List.size_toArray, bv_length]; exact hX
  exact wpList_store_rowX hgd _ x y ho g (bv X).toArray hx hy _ key0 hg (by rw [hxl]; kernel_rfl) (by rw [hxl]; rfl) (Array.all_eq_true_iff_forall_mem.2 fun u hu => bv_one X u (by simpa using hu)) h
set_option maxRecDepth 100000 in
theorem run_eq_key (X Y : List (BitVec 8)) (hx : X.length = 32) (hy : Y.length = 32) (w : World) : (Op.equalIn 10000 28 (.agg (bv X).toArray) (.agg (bv Y).toArray)).run Tryd.prog w = .ok (decide (X = Y)) w := by
  have h := run_equalIn_ints (P := Tryd.prog) w 10000 9998 (by omega) 28 5 32 .u8 Tryd.underlying28 Tryd.underlying5 (by kernel_rfl) (X.map bn) (Y.map bn) (by simpa using hx) (by simpa using hy)
  have e : ∀ Z : List (BitVec 8), (bv Z) = (Z.map bn).map (Value.int .u8) := fun Z => by simp [bv]
  rw [e, e, h]
  congr 1
  by_cases hXY : X = Y
  · subst hXY; simp
  · simp only [hXY, decide_false, beq_eq_false_iff_ne]
    exact fun e => hXY (List.map_inj_right (fun x y e => bn_inj e) |>.1 e)
theorem parts_start {w w2 : World} (h : Aft w w2) : partsInv w w2.heap.size [] (w2.alloc (.cells (shaArr iv 0 (.slice none 0 0)) 37)) :=
  ⟨none, 0, sha_row (s := iv) (N := 0) (vr := .slice none 0 0) (heap_alloc_new w2 _), Rd.nil _, Aft.trans h (Aft.alloc _ _)⟩
set_option maxRecDepth 100000 in
set_option maxHeartbeats 4000000 in
theorem shaParts_any (va vb : Value) (ps qs : List (List (BitVec 8))) (w : World) (hK : TabK K0 1 w) (hra : RdAll w va ps) (hrb : RdAll w vb qs)
    (h1 : ps.length ≤ 1048576) (h2 : qs.length ≤ 1048576) (h3 : ps.flatten.length ≤ 1048576) (h4 : qs.flatten.length ≤ 1048576) :
    Calls Tryd.prog 9 #[va, vb] w fun e w' => e = .returned (.bool true) ∧ Below w.heap.size w w' := by
  have HK := Lib.hid hK
  have HA := Lib.hid hra
  have HB := Lib.hid hrb
  obtain ⟨aoa, capa, rfl, -⟩ := hra.shape
  obtain ⟨aob, capb, rfl, -⟩ := hrb.shape
  clear hK hra hrb
  have HL := Lib.hid (live2_any w HK.out)
  go_enter Tryd.func9, Tryd.ntmps9
  go_wp2_with fail
  refine HL.out.mono ?_
  rintro e w1 ⟨rfl, hb1⟩
  have HB1 := Lib.hid hb1
  clear hb1
  go_wp2_with fail
  refine (few_any _ ps w1 (HA.out.below HB1.out) (by omega)).mono ?_
  rintro e w1' ⟨rfl, rfl⟩
  by_cases hf1 : few ps
  · by_cases hf2 : few qs
    · have hd1 : decide (few ps) = true := decide_eq_true hf1
      rw [hd1]
      go_wp2_with fail
      refine (few_any _ qs _ (HB.out.below HB1.out) (by omega)).mono ?_
      rintro e w1'' ⟨rfl, rfl⟩
      rw [decide_eq_true hf2]
      go_wp2_with fail
      refine (new_any' _).mono ?_
      rintro e w2 ⟨rfl, hb2⟩
      have HB2 := Lib.hid (Aft.trans HB1.out hb2)
      clear hb2
      go_wp2_with fail
      go_loopw [30] (fun v30 wr => ∃ i : Nat, i ≤ ps.length ∧ v30 = .int .i64 i ∧ partsInv w w2.heap.size (ps.take i).flatten wr) (fun v _ => ps.length - (intOf v).toNat)
      case atStart => exact ⟨0, by omega, rfl, parts_start HB2.out⟩
      case round =>
        obtain ⟨i, hi, rfl, hinv⟩ := hrel
        obtain ⟨a0, c0, hrow, hrd, hbw⟩ := hinv
        have HRow := Lib.hid hrow
        have HRd := Lib.hid hrd
        have HBw := Lib.hid hbw
        clear hrow hrd hbw
        by_cases hlt : i < ps.length
        · obtain ⟨g, o, cap', u, hvv, hcc, hu⟩ := (HA.out.below HBw.out).cell hlt
          cases hvv
          have hlt' : (i : Int) < (ps.length : Nat) := by omega
          have hF := flat_step ps i hlt
          have hfl := flatten_take_le ps i
          have hfl2 := flatten_take_le ps (i + 1)
          rw [hF] at hfl2
          generalize ps.getD i [] = p at hu hF hfl2
          generalize (ps.take i).flatten = d at HRow HRd hF hfl hfl2
          rw [List.length_append] at hfl2
          have HF := Lib.hid hF
          have HU := Lib.hid hu
          have HL1 := Lib.hid hfl
          have HL2 := Lib.hid hfl2
          obtain ⟨au, cu, rfl, -, -, -, -⟩ := hu
          obtain ⟨g0, g1, g2, g3, g4, g5, g6, g7, g8, g9⟩ := sha_all HRow.out
          clear hF hfl hfl2
          go_wp2_with fail
          have hba : Aft wr (wr.alloc (.cells #[.slice au (bv p).length cu] 25)) := Aft.alloc _ _
          have hbb := Aft.trans HBw.out hba
          refine (write_ok K0 (shaSt K0 iv d) d.length _ _ (restOf d) [p] _ (TabK_fr HK.out (Fr.of_below (S := fun _ => False) hbb) (fun h => h)) (HRd.out.grow hba) (RdAll.one wr _ p _ HU.out) (iv_chk_any d (by have := HL1.out; omega)) (by simp; have := HL2.out; omega)).mono ?_
          rintro e w5 ⟨st5, N5, rs5, a5, c5, e1, e2, e3, rfl, ho5, hb5⟩
          have HB5 := Lib.hid (show Below w.heap.size w w5 from Aft.trans hbb hb5)
          have HR5 := Lib.hid (HRow.out.of_block (Below.block (Aft.trans hba hb5) _ HRow.out.lt))
          have HO5 := Lib.hid ho5
          have hl5 : w2.heap.size < w5.heap.size := HR5.out.lt
          have hst : st5 = shaSt K0 iv (d ++ p) ∧ rs5 = restOf (d ++ p) := by
            rw [e1, e3]
            have := sha_step K0 iv d p
            simp only [List.flatten_cons, List.flatten_nil, List.append_nil]
            exact this
          obtain ⟨hs1, hs2⟩ := hst
          have hN5 : N5 = (d ++ p).length := by rw [e2]; simp
          subst hs1 hs2 hN5
          have HS5 := Lib.hid (heap_alloc_new w5 (.cells zero10 37))
          have hlw : w2.heap.size < wr.heap.size := HRow.out.lt
          have HSb := Lib.hid ((Below.heap_alloc w5 (.cells zero10 37) _ hl5).trans (sha_whole HR5.out))
          clear hba hbb hb5 ho5 e1 e2 e3 g0 g1 g2 g3 g4 g5 g6 g7 g8 g9
          generalize d ++ p = D at *
          generalize hS : shaSt K0 iv D = S at *
          go_wp2_with (first
            | (refine wpList_store_sha rfl (.tmp 9) (.tmp 39) rfl w5.heap.size #[.int .u32 (wn S.a), .int .u32 (wn S.b), .int .u32 (wn S.c), .int .u32 (wn S.d), .int .u32 (wn S.e), .int .u32 (wn S.f), .int .u32 (wn S.g), .int .u32 (wn S.h), .int .u64 (D.length : Nat), .slice a5 (bv (restOf D)).length c5] rfl rfl rfl (by kernel_rfl) zero10 rfl HS5.out ?_; intro w6 q2 q3 q4; obtain ⟨g0, g1, g2, g3, g4, g5, g6, g7, g8, g9⟩ := sha_all (sha_row (s := S) (N := D.length) (vr := .slice a5 (bv (restOf D)).length c5) q2.out); have HB6 := Lib.hid (q3 w.heap.size w HB5.out.size (HB5.out.alloc HB5.out.size _)); have HS6 := Lib.hid ((q4.out w2.heap.size (by omega)).trans HSb.out); have HRd6 := Lib.hid ((Rd.of_own HO5.out).keep (w' := w6) fun g _ _ hlt => (q4.out g (by omega)).trans (Below.heap_alloc _ _ _ hlt)); clear q2 q3 q4)
            | (refine wpList_store_sha rfl (.tmp 6) (.tmp 43) rfl w2.heap.size #[.int .u32 (wn S.a), .int .u32 (wn S.b), .int .u32 (wn S.c), .int .u32 (wn S.d), .int .u32 (wn S.e), .int .u32 (wn S.f), .int .u32 (wn S.g), .int .u32 (wn S.h), .int .u64 (D.length : Nat), .slice a5 (bv (restOf D)).length c5] rfl rfl rfl (by kernel_rfl) _ (by rfl) HS6.out ?_; intro w7 q5 q6 q7; have HB7 := Lib.hid (q6 w.heap.size w (by have := Below.size HB2.out; omega) HB6.out); have HR7 := Lib.hid (sha_row (s := S) (N := D.length) (vr := .slice a5 (bv (restOf D)).length c5) q5.out); have HRd7 := Lib.hid (HRd6.out.keep (w' := w7) fun g hg _ _ => q7.out g (by have h6 := (own_lt HO5.out hg).1; rw [World.size_alloc] at h6; omega)); clear q5 q6 q7))
          go_roundw
          case rel =>
            refine ⟨i + 1, by omega, by go_num, a5, c5, ?_, ?_, ?_⟩
            · rw [HF.out, hS]; exact HR7.out
            · rw [HF.out]; exact HRd7.out
            · exact HB7.out
          case measure => simp [intOf]; omega
        · obtain rfl : i = ps.length := by omega
          have hlt' : ¬ ((ps.length : Nat) : Int) < (ps.length : Nat) := by omega
          rw [List.take_length] at HRow HRd
          have HFl := Lib.hid (rfl : ps.flatten = ps.flatten)
          generalize hd : ps.flatten = d at HRow HRd h3
          have HD := Lib.hid hd
          have HL3 := Lib.hid h3
          have HL4 := Lib.hid h4
          have HL1 := Lib.hid h1
          have HL2 := Lib.hid h2
          clear hd h1 h2 h3 h4 HFl
          have hlw : w2.heap.size < wr.heap.size := HRow.out.lt
          have HC := Lib.hid (iv_chk_any d (by have := HL3.out; omega))
          generalize hS : shaSt K0 iv d = S at HRow HC
          have HS := Lib.hid hS
          clear hS
          go_wp2_with fail
          refine (new_any' _).mono ?_
          rintro e w5 ⟨rfl, hb5⟩
          have HB5 := Lib.hid (show Below w.heap.size w w5 from Aft.trans HBw.out hb5)
          have HW5 := Lib.hid (show Aft wr w5 from hb5)
          clear hb5
          go_wp2_with fail
          have hall := all_any _ ps w5 (HA.out.below HB5.out) (by rw [HD.out]; have := HL3.out; omega)
          rw [HD.out] at hall
          refine hall.mono ?_
          rintro e w6 ⟨a6, c6, rfl, ho6, hb6⟩
          have HO6 := Lib.hid ho6
          have HB6 := Lib.hid (show Below w.heap.size w w6 from Aft.trans HB5.out hb6)
          have HW6 := Lib.hid (Aft.trans HW5.out hb6)
          clear hall ho6 hb6
          go_wp2_with fail
          have hba : Aft w6 (w6.alloc (.cells #[.slice a6 (bv d).length c6] 25)) := Aft.alloc _ _
          have hbb := Aft.trans HB6.out hba
          refine (write_ok K0 iv 0 _ _ [] [d] _ (TabK_fr HK.out (Fr.of_below (S := fun _ => False) hbb) (fun h => h)) (Rd.nil _) (RdAll.one w6 _ d _ (Rd.of_own HO6.out)) iv_chk (by simp; have := HL3.out; omega)).mono ?_
          rintro e w7 ⟨st7, N7, rs7, a7, c7, e1, e2, e3, rfl, ho7, hb7⟩
          have HB7 := Lib.hid (show Below w.heap.size w w7 from Aft.trans hbb hb7)
          have HW7 := Lib.hid (Aft.trans HW6.out (Aft.trans hba hb7))
          have HO7 := Lib.hid ho7
          simp only [List.flatten_cons, List.flatten_nil, List.append_nil, List.nil_append, Nat.zero_add] at e1 e2 e3
          rw [HS.out] at e1
          subst e1 e2 e3
          have HS7 := Lib.hid (heap_alloc_new w7 (.cells zero10 37))
          clear hba hbb hb7 ho7
          go_wp2_with ((refine wpList_store_sha rfl (.tmp 11) (.tmp 51) rfl w7.heap.size #[.int .u32 (wn st7.a), .int .u32 (wn st7.b), .int .u32 (wn st7.c), .int .u32 (wn st7.d), .int .u32 (wn st7.e), .int .u32 (wn st7.f), .int .u32 (wn st7.g), .int .u32 (wn st7.h), .int .u64 (d.length : Nat), .slice a7 (bv (restOf d)).length c7] rfl rfl rfl (by kernel_rfl) zero10 rfl HS7.out ?_; intro w8 q2 q3 q4; obtain ⟨g0, g1, g2, g3, g4, g5, g6, g7, g8, g9⟩ := sha_all (sha_row (s := st7) (N := d.length) (vr := .slice a7 (bv (restOf d)).length c7) q2.out); have HB8 := Lib.hid (q3 w.heap.size w HB7.out.size (HB7.out.alloc HB7.out.size _)); have hl7 := Below.size HW7.out; have HW8 := Lib.hid (show Aft wr w8 from q3 wr.heap.size wr hl7 (Below.alloc HW7.out hl7 _)); have HRd8 := Lib.hid ((Rd.of_own HO7.out).keep (w' := w8) fun g _ _ hlt => (q4.out g (by omega)).trans (Below.heap_alloc _ _ _ hlt)); have hR8 := HRow.out.of_block (Below.block HW8.out _ hlw); have HRow8 := Lib.hid hR8; obtain ⟨k0, k1, k2, k3, k4, k5, k6, k7, k8, k9⟩ := sha_all hR8; clear hR8 q2 q3 q4 hl7))
          refine (shaSame_any st7 st7 d.length d.length _ _ (restOf d) (restOf d) w8 (HRd.out.grow HW8.out) HRd8.out).mono ?_
          rintro e w9 ⟨rfl, hb9⟩
          have HW9 := Lib.hid (Aft.trans HW8.out hb9)
          have hR9 := HRow8.out.of_block (Below.block hb9 _ HRow8.out.lt)
          have HRow9 := Lib.hid hR9
          clear g0 g1 g2 g3 g4 g5 g6 g7 g8 g9 k0 k1 k2 k3 k4 k5 k6 k7 k8 k9
          obtain ⟨k0, k1, k2, k3, k4, k5, k6, k7, k8, k9⟩ := sha_all hR9
          clear hR9 hb9
          simp only [and_self, decide_true]
          go_wp2_with fail
          refine (check_any st7 d.length (bv (restOf d)).length c0 a0 w9 (by have := HL3.out; omega) (by rw [bv_length, restOf_length]; omega)).mono ?_
          rintro e wa ⟨rfl, hba⟩
          rw [HC.out]
          have HWa := Lib.hid (Aft.trans HW9.out hba)
          have hRa := HRow9.out.of_block (Below.block hba _ HRow9.out.lt)
          have HRowa := Lib.hid hRa
          clear k0 k1 k2 k3 k4 k5 k6 k7 k8 k9
          obtain ⟨k0, k1, k2, k3, k4, k5, k6, k7, k8, k9⟩ := sha_all hRa
          clear hRa hba
          go_wp2_with fail
          have HBa := Lib.hid (show Below w.heap.size w wa from Aft.trans HBw.out HWa.out)
          refine (write_ok K0 st7 d.length _ _ (restOf d) qs wa (TabK_fr HK.out (Fr.of_below (S := fun _ => False) HBa.out) (fun h => h)) (HRd.out.grow HWa.out) (HB.out.below HBa.out) HC.out (by have := HL3.out; have := HL4.out; omega)).mono ?_
          rintro e wb ⟨stb, Nb, rsb, ab, cb, e1, e2, e3, rfl, hob, hbb⟩
          have HBb := Lib.hid (show Below w.heap.size w wb from Aft.trans HBa.out hbb)
          have HWb := Lib.hid (Aft.trans HWa.out hbb)
          have HOb := Lib.hid hob
          have hfe := sha_step K0 iv d qs.flatten
          rw [HS.out] at hfe
          have E1 := Lib.hid (show stb = shaSt K0 iv (d ++ qs.flatten) by rw [e1]; exact hfe.1)
          have E2 := Lib.hid (show Nb = (d ++ qs.flatten).length by rw [e2, List.length_append])
          have E3 := Lib.hid (show rsb = restOf (d ++ qs.flatten) by rw [e3]; exact hfe.2)
          have HCb := Lib.hid (show chk stb Nb (bv rsb).length = 0 by rw [E1.out, E2.out, E3.out]; exact iv_chk_any _ (by rw [List.length_append]; have := HL3.out; have := HL4.out; omega))
          have hNb : Nb ≤ 2097152 := by rw [E2.out, List.length_append]; have := HL3.out; have := HL4.out; omega
          have HNb := Lib.hid (show Nb = d.length + qs.flatten.length from e2)
          have HSb := Lib.hid (heap_alloc_new wb (.cells zero10 37))
          clear hfe e1 e2 e3 hob hbb k0 k1 k2 k3 k4 k5 k6 k7 k8 k9
          go_wp2_with ((refine wpList_store_sha rfl (.tmp 13) (.tmp 70) rfl wb.heap.size #[.int .u32 (wn stb.a), .int .u32 (wn stb.b), .int .u32 (wn stb.c), .int .u32 (wn stb.d), .int .u32 (wn stb.e), .int .u32 (wn stb.f), .int .u32 (wn stb.g), .int .u32 (wn stb.h), .int .u64 (Nb : Int), .slice ab (bv rsb).length cb] rfl rfl rfl (by kernel_rfl) zero10 rfl HSb.out ?_; intro wc q2 q3 q4; have hRc := sha_row (s := stb) (N := Nb) (vr := .slice ab (bv rsb).length cb) q2.out; have HRowc := Lib.hid hRc; obtain ⟨g0, g1, g2, g3, g4, g5, g6, g7, g8, g9⟩ := sha_all hRc; have HBc := Lib.hid (q3 w.heap.size w HBb.out.size (HBb.out.alloc HBb.out.size _)); have hlb := Below.size HWb.out; have HWc := Lib.hid (show Aft wr wc from q3 wr.heap.size wr hlb (Below.alloc HWb.out hlb _)); have HRdc := Lib.hid ((Rd.of_own HOb.out).keep (w' := wc) fun g _ _ hlt => (q4.out g (by omega)).trans (Below.heap_alloc _ _ _ hlt)); clear hRc q2 q3 q4 hlb))
          refine (done_any K0 stb Nb _ rsb wc (TabK_fr HK.out (Fr.of_below (S := fun _ => False) HBc.out) (fun h => h)) HRdc.out (by omega) (by rw [E3.out, restOf_length]; omega)).mono ?_
          rintro e wd ⟨rfl, hbd⟩
          rw [HCb.out, if_pos rfl]
          have hkey : finKey K0 stb Nb rsb = digest K0 (d ++ qs.flatten) := by rw [E1.out, E2.out, E3.out]; rfl
          rw [hkey]
          have hxl := digest_length K0 (d ++ qs.flatten)
          generalize hX : digest K0 (d ++ qs.flatten) = X at hxl ⊢
          have HX := Lib.hid hX
          have HXL := Lib.hid hxl
          have HBd := Lib.hid (show Below w.heap.size w wd from Aft.trans HBc.out hbd)
          have HWd := Lib.hid (Aft.trans HWc.out hbd)
          have HRowd := Lib.hid (HRowc.out.of_block (Below.block hbd _ HRowc.out.lt))
          have HSd := Lib.hid (heap_alloc_new wd (.cells key0 28))
          clear hkey hxl hX hbd g0 g1 g2 g3 g4 g5 g6 g7 g8 g9
          go_wp2_with ((refine wpList_store_keyX rfl (.tmp 15) (.tmp 75) rfl wd.heap.size X HXL.out rfl rfl HSd.out ?_; intro we q2 q3; have HKe := Lib.hid q2.out; have HBe := Lib.hid (q3 w.heap.size w HBd.out.size (HBd.out.alloc HBd.out.size _)); have HWe := Lib.hid (show Aft wd we from q3 wd.heap.size wd (Nat.le_refl _) (Below.alloc (Below.refl _ _) (Nat.le_refl _) _)); clear q2 q3))
          have HFl := Lib.hid (show (ps ++ qs).flatten = d ++ qs.flatten by rw [List.flatten_append, HD.out])
          have heq := run_eq_key X X HXL.out HXL.out
          simp only [decide_true] at heq
          generalize hf : qs.flatten = f at *
          have HF := Lib.hid hf
          have hNN : (d.length : Int) + ((bv f).length : Nat) = (Nb : Int) := by rw [HNb.out, bv_length]; rfl
          have hd1 := HL3.out
          have hf3 : (bv f).length ≤ 1048576 := by rw [bv_length]; exact HL4.out
          clear hf
          refine wp_region_lexF (fun i => ([0, 0, 0, 0, 0, 0, 0, 0, 0, 0, 0, 0, 2, 0, 3, 2, 0, 0, 0, 0, 0, 0, 0, 0, 2] : List Nat).getD i 0) 31 (by kernel_rfl) (by kernel_rfl) ?_; intro wf hwf
          have HWf := Lib.hid (show Aft we wf by rw [hwf]; exact (Below.refl _ _).drew)
          clear hwf
          have L6 := fun (u : Later wf.heap.size wf) => sha_all (HRow.out.of_block (Below.block (Aft.trans (Aft.trans HWd.out HWe.out) (Aft.trans HWf.out u.h)) _ hlw))
          have L13 := fun (u : Later wf.heap.size wf) => sha_all (HRowd.out.of_block (Below.block (Aft.trans HWe.out (Aft.trans HWf.out u.h)) _ HRowd.out.lt))
          simp only [forall_and] at L6 L13
          obtain ⟨e0, e1, e2, e3, e4, e5, e6, e7, e8, e9⟩ := L6
          obtain ⟨f0, f1, f2, f3, f4, f5, f6, f7, f8, f9⟩ := L13
          clear e0 e1 e2 e3 e4 e5 e6 e7 e9 f0 f1 f2 f3 f4 f5 f6 f7 f9
          iterate 10 (first | (refine lf_quiet rfl (by go_big_quiet_want; exact quiet_false (by assumption)) (by kernel_rfl) rfl ?_; intro Kx hKx; go_big_quiet_op; go_big_quiet_on))
          refine lf_load_row rfl (by kernel_rfl) 28 (.tmp 15) rfl wd.heap.size rfl _ (bv X).toArray _ _ (HWf.out.get HKe.out) Tryd.underlying28 rfl (by rw [List.size_toArray, bv_length, HXL.out]; kernel_rfl) ?_
          simp only [Act.put, List.setIfInBounds_toArray, List.set_cons_succ, List.set_cons_zero]
          repeat (first | (refine lf_skip (by go_big_quiet_skip; exact wpQuiet_nil trivial) (by kernel_rfl) ?_; simp only [Act.put, List.setIfInBounds_toArray, List.set_cons_succ, List.set_cons_zero]) | (refine lf_quiet rfl (by go_big_quiet_want; exact quiet_false (by assumption)) (by kernel_rfl) rfl ?_; intro Kx hKx; go_big_quiet_op; go_big_quiet_on))
          refine lf_eff rfl (by go_big_quiet_want; exact quiet_false (by assumption)) (by kernel_rfl) ?_
          intro wg hg Kx hKx
          have HBg := Lib.hid (show Below w.heap.size w wg from Aft.trans HBe.out (Aft.trans HWf.out hg))
          obtain ⟨vs, hv1, hv2, hv3⟩ := HA.out
          refine wp_append_rd (.const (.slice none 0 0)) (.tmp 88) 22 rfl wg.heap.size 25 (.slice none 0 0) 24 Tryd.underlying22 info_slice rfl (.slice none 0 0) (.slice aoa ps.length capa) [] vs rfl rfl (World.ownsRow_nil _ _ _ _) (hv1.grow HBg.out) (RdAll.one_cell hv3) (by have := HL1.out; simp; omega) (by have := HL1.out; simp; omega) (Nat.le_refl _) ?_
          intro v1 wh k1 k2
          rw [List.nil_append] at k1
          have hgh : Aft wg wh := (Below.refl _ _).grown k2 (Nat.le_refl _) (by simp [Value.ownBlock])
          apply hKx
          refine ⟨hgh, ?_⟩
          simp only [Act.put, List.setIfInBounds_toArray, List.set_cons_succ, List.set_cons_zero]
          have HK1 := Lib.hid k1
          have HFg := Lib.hid hg
          have hgh0 := hgh
          have HGB := Lib.hid (show Below w.heap.size w wh from Aft.trans HBg.out hgh)
          clear k1 k2 hg hgh hKx
          repeat (first | (refine lf_skip (by go_big_quiet_skip; exact wpQuiet_nil trivial) (by kernel_rfl) ?_; simp only [Act.put, List.setIfInBounds_toArray, List.set_cons_succ, List.set_cons_zero]) | (refine lf_quiet rfl (by go_big_quiet_want; exact quiet_false (by assumption)) (by kernel_rfl) rfl ?_; intro Kx hKx; go_big_quiet_op; go_big_quiet_on))
          refine lf_eff3 rfl (by go_big_quiet_want; exact quiet_false (by assumption)) (by kernel_rfl) ?_
          intro wi hi Kx hKx
          have HO1 := Lib.hid (ownsRow_below HK1.out (w' := wi) fun g hg => Below.block hi g (own_lt HK1.out hg).2)
          have HBi := Lib.hid (show Below w.heap.size w wi from Aft.trans HGB.out hi)
          obtain ⟨ws, hx1, hx2, hx3⟩ := HB.out
          refine wp_append_rd (.tmp 89) (.tmp 90) 22 rfl wg.heap.size 25 (.slice none 0 0) 24 Tryd.underlying22 info_slice rfl v1 (.slice aob qs.length capb) vs ws rfl rfl HO1.out (hx1.grow HBi.out) (RdAll.one_cell hx3) (by have := HL1.out; have := HL2.out; omega) (by have := HL1.out; have := HL2.out; omega) (by have := Below.size hgh0; have := Below.size hi; omega) ?_
          intro v2 wj k1 k2
          have hij : Below wg.heap.size wi wj := (Below.refl wg.heap.size wi).grown k2 (by have := Below.size hgh0; have := Below.size hi; omega) (fun g hg => (own_lt HO1.out hg).1)
          have hgj : Aft wg wj := Below.trans (show Aft wg wi from Aft.trans hgh0 hi) hij
          have HFj := Lib.hid (show Aft wf wj from Aft.trans HFg.out hgj)
          have HBj := Lib.hid (show Below w.heap.size w wj from Aft.trans HBe.out (Aft.trans HWf.out HFj.out))
          have hall := RdAll.join (Rd.of_own k1) hv2 hx2 (fun i v hv => (hv3 i v hv).grow HBj.out) (fun i v hv => (hx3 i v hv).grow HBj.out)
          apply hKx
          refine ⟨HFj.out, ?_⟩
          simp only [Act.put, List.setIfInBounds_toArray, List.set_cons_succ, List.set_cons_zero]
          have HALL := Lib.hid hall
          clear hall hij hgj k1 k2 hi hKx hx1 hx2 hx3 hv1 hv2 hv3 hgh0
          refine lf_eff rfl (by go_big_quiet_want; exact quiet_false (by assumption)) (by kernel_rfl) ?_; intro wk hk Kx hKx; go_wp2_with fail
          refine (sum_any K0 _ (ps ++ qs) wk (TabK_fr HK.out (Fr.of_below (S := fun _ => False) (show Below w.heap.size w wk from Aft.trans HBj.out hk)) (fun h => h)) (HALL.out.below hk) (by rw [HFl.out, List.length_append]; have := HL3.out; have := HL4.out; omega)).mono ?_
          rintro e wl ⟨rfl, hl⟩
          rw [HFl.out, HX.out]
          have HBl := Lib.hid (show Aft wj wl from Aft.trans hk hl)
          go_wp2_with fail
          refine ⟨hl, ?_⟩
          clear hk hl
          repeat (first | (refine lf_skip (by go_big_quiet_skip; exact wpQuiet_nil trivial) (by kernel_rfl) ?_; simp only [Act.put, List.setIfInBounds_toArray, List.set_cons_succ, List.set_cons_zero]) | (refine lf_quiet rfl (by go_big_quiet_want; exact quiet_false (by assumption)) (by kernel_rfl) rfl ?_; intro Kx hKx; go_big_quiet_op; go_big_quiet_on))
          refine lf_eff rfl (by go_big_quiet_want; exact quiet_false (by assumption)) (by kernel_rfl) ?_; intro wm hm Kx hKx; go_wp2_with fail
          have HBm := Lib.hid (show Below w.heap.size w wm from Aft.trans HBj.out (Aft.trans HBl.out hm))
          have hall := all_any _ qs wm (HB.out.below HBm.out) (by rw [HF.out]; have := HL4.out; omega)
          rw [HF.out] at hall
          refine hall.mono ?_
          rintro e wn ⟨an, cn, rfl, -, hn⟩
          have HBn := Lib.hid (show Below w.heap.size w wn from Aft.trans HBm.out hn)
          go_wp2_with fail
          refine ⟨hn, ?_⟩
          clear hn hm hall
          repeat (first | (refine lf_skip (by go_big_quiet_skip; exact wpQuiet_nil trivial) (by kernel_rfl) ?_; simp only [Act.put, List.setIfInBounds_toArray, List.set_cons_succ, List.set_cons_zero]) | (refine lf_quiet rfl (by go_big_quiet_want; exact quiet_false (by assumption)) (by kernel_rfl) rfl ?_; intro Kx hKx; go_big_quiet_op; go_big_quiet_on))
          refine lf_done ?_
          intro wo ho
          have HBo := Lib.hid (show Below w.heap.size w wo from Aft.trans HBn.out ho)
          go_wp2_with fail
          go_ret
          exact ⟨rfl, HBo.out⟩
    · rw [decide_eq_true hf1]
      go_wp2_with fail
      refine (few_any _ qs _ (HB.out.below HB1.out) (by omega)).mono ?_
      rintro e w1'' ⟨rfl, rfl⟩
      rw [decide_eq_false hf2]
      go_wp2_with fail
      go_ret
      exact ⟨rfl, HB1.out⟩
  · rw [decide_eq_false hf1]
    go_wp2_with fail
    go_ret
    exact ⟨rfl, HB1.out⟩
end Go.Proofs.YtifehfcgmodmaaaDoor
/- mac.held: a key, held against a byte. -/
namespace Go.Proofs.YtifehfcgmodmaaaDoor
open Go Go.RowKit
/-- A key of at most 64 bytes. -/
def key64 (K : Nat → BitVec 32) (k : List (BitVec 8)) : List (BitVec 8) := if k.length ≤ 64 then k else digest K k
def heldB (k : List (BitVec 8)) (b : BitVec 8) : List (BitVec 8) := (List.range 64).map fun j => k.getD j 0 ^^^ b
theorem heldB_length (k : List (BitVec 8)) (b : BitVec 8) : (heldB k b).length = 64 := by simp [heldB]
def heldRow (k : List (BitVec 8)) (b : BitVec 8) (i : Nat) (j : Nat) : Value := .int .u8 (bn (if j < i then k.getD j 0 ^^^ b else k.getD j 0))
theorem heldRow_at (k : List (BitVec 8)) (b : BitVec 8) (i : Nat) : heldRow k b i i = .int .u8 (bn (k.getD i 0)) := by unfold heldRow; rw [if_neg (by omega)]
theorem bn_xor (x y : BitVec 8) : bits .xor .u8 (bn x) (bn y) = bn (x ^^^ y) := by
  have e : ∀ x : BitVec 8, BitVec.ofInt 8 (bn x) = x := fun x => by
    apply BitVec.eq_of_toNat_eq
    have := x.isLt
    unfold bn
    rw [BitVec.toNat_ofInt]
    omega
  show IntKind.u8.wrap ((BitVec.ofInt 8 (bn x) ^^^ BitVec.ofInt 8 (bn y)).toNat : Int) = _
  rw [e, e]
  have := (x ^^^ y).isLt
  unfold bn
  rw [IntKind.wrap_u8]
  omega
theorem heldRow_step (k : List (BitVec 8)) (b : BitVec 8) (i : Nat) : ∀ j, j < 64 → (if j = i then Value.int .u8 (bn (k[i]?.getD 0 ^^^ b)) else heldRow k b i j) = heldRow k b (i + 1) j := by
  intro j _
  rw [← List.getD_eq_getElem?_getD]
  unfold heldRow
  by_cases h : j = i
  · subst h; rw [if_pos rfl, if_pos (by omega)]
  · rw [if_neg h]
    by_cases h2 : j < i
    · rw [if_pos h2, if_pos (by omega)]
    · rw [if_neg h2, if_neg (by omega)]
def zRow : Array Value := madeCells #[.int .u8 0] 64
theorem zRow_arr : zRow = (List.replicate 64 (Value.int .u8 0)).toArray := by
  have : zRow.toList = List.replicate 64 (.int .u8 0) := toList_madeCells_one _ 64
  rw [← this]
theorem held_start {w : World} {g t : Nat} (k : List (BitVec 8)) {b : BitVec 8} (hk : k.length ≤ 64) (h : w.heap[g]? = some (.cells (splice (List.replicate 64 (Value.int .u8 0)) 0 (bv k)).toArray t (0, 0))) : w.rowIs g t 64 (heldRow k b 0) := by
  refine ⟨_, h, ?_, fun i hi => ?_⟩
  · rw [List.size_toArray, length_splice _ _ _ (by simp [bv_length]; omega)]; simp
  · unfold heldRow
    rw [if_neg (by omega)]
    simp only [splice, List.take_zero, List.nil_append, Nat.zero_add, List.getElem?_toArray]
    by_cases h2 : i < k.length
    · rw [List.getElem?_append_left (by rw [bv_length]; exact h2)]
      simp [bv, List.getD, List.getElem?_eq_getElem h2]
    · rw [List.getElem?_append_right (by rw [bv_length]; omega)]
      rw [List.getElem?_drop, bv_length, List.getElem?_replicate_of_lt (by omega), List.getD, List.getElem?_eq_none (show k.length ≤ i by omega)]
      rfl
theorem held_end {wr : World} {g t : Nat} (k : List (BitVec 8)) (b : BitVec 8) {B : Nat} (hB : B ≤ g) (h : wr.rowIs g t 64 (heldRow k b 64)) : wr.ownsRow B t 1 (.slice (some ⟨g, 0, none⟩) 64 64) 64 (bv (heldB k b)) := by
  obtain ⟨cs, h1, h2, h3⟩ := h
  refine ⟨by rw [bv_length, heldB_length], .inr ⟨g, 64, cs, rfl, hB, h1, Nat.le_refl _, by decide, h2, ?_⟩⟩
  apply List.ext_getElem?
  intro i
  by_cases hi : i < 64
  · have h4 := h3 i hi
    rw [List.getElem?_take_of_lt (by omega), Array.getElem?_toList, h4]
    unfold heldRow
    rw [if_pos hi]
    simp [bv, heldB, hi]
  · rw [List.getElem?_eq_none (by rw [List.length_take]; omega), List.getElem?_eq_none (by rw [bv_length, heldB_length]; omega)]
theorem Rd.addr {w : World} {ao : Option Addr} {n cap : Nat} {xs : List Value} (h : Rd w (.slice ao n cap) xs) (hx : 0 < xs.length) : ∃ ad, ao = some ad ∧ ∀ j u, xs[j]? = some u → w.cell? (ad.add j) = some u := by
  obtain ⟨ao', cap', hv, h1, h2, h3, h4⟩ := h
  cases hv
  cases ao with
  | none => have := h3 rfl; omega
  | some ad => exact ⟨ad, rfl, fun j u hu => h4 ad rfl j u hu⟩
theorem aft_set {w wr : World} (h : Aft w wr) {p : Addr} (hp : w.heap.size ≤ p.block) (u : Value) : Aft w (wr.setCell p u) :=
  ⟨h.os, h.tape, h.output, by have := Below.size h; simpa [World.setCell] using this, fun k hk => (Below.heap_setCell _ _ _ _ (by omega)).trans (Below.block h k hk)⟩
theorem Rd.of_key {w : World} {g t : Nat} {X : List (BitVec 8)} (h : w.heap[g]? = some (.cells (bv X).toArray t (0, 0))) (hX : X.length = 32) : Rd w (.slice (some ⟨g, 0, none⟩) 32 32) (bv X) := by
  refine ⟨some ⟨g, 0, none⟩, 32, by rw [bv_length, hX], by rw [bv_length]; omega, by omega, (fun h => by cases h), fun ad ha j u hu => ?_⟩
  cases ha
  rw [Addr.add_lit]
  simp only [World.cell?, h, Nat.zero_add, List.getElem?_toArray]
  exact hu
attribute [local go_sem] bn_xor
set_option maxRecDepth 100000 in
set_option maxHeartbeats 1000000 in
theorem held_any (v : Value) (ks : List (BitVec 8)) (b : BitVec 8) (w : World) (hK : TabK K0 1 w) (hrd : Rd w v (bv ks)) (hlen : ks.length ≤ 1099511627776) :
    Calls Tryd.prog 66 #[v, .int .u8 (bn b)] w (RetSl 64 fun v' w' => w'.ownsRow w.heap.size 5 1 v' 64 (bv (heldB (key64 K0 ks) b)) ∧ Below w.heap.size w w') := by
  have HK := Lib.hid hK
  have HR := Lib.hid hrd
  obtain ⟨ao, cap, rfl, -, -, -, -⟩ := hrd
  clear hK
  by_cases hl : ks.length ≤ 64
  · have hl' : ¬ (64 : Int) < ((bv ks).length : Nat) := by rw [bv_length]; omega
    have hkey : key64 K0 ks = ks := if_pos hl
    rw [hkey]
    clear hkey
    go_enter Tryd.func66, Tryd.ntmps66
    have hlk : ks.length ≤ 64 := hl
    have hrk : Rd w (.slice ao (bv ks).length cap) (bv ks) := HR.out
    have hbk : Aft w w := Aft.refl _
    have hnk : (bv ks).length = (bv ks).length := rfl
    have HLk := Lib.hid hlk
    have HRk := Lib.hid hrk
    have HBk := Lib.hid hbk
    clear hlk hrk hbk
    obtain ⟨iB, hiB, hz1, hz2, hz3⟩ := info_parts info_byte
    have hmk : ∀ w, (Instr.makeSlice 25 (.int .i64 64) (.int .i64 64)).run Tryd.prog w = .ok (.slice (some ⟨w.heap.size, 0, none⟩) 64 64) (w.alloc (.cells zRow 5)) := fun w => by
      have := run_make (P := Tryd.prog) w 25 5 iB (.int .u8 0) Tryd.underlying25 hiB hz1 .i64 .i64 64 64 (by omega) (by omega) (by rw [hz3]; omega) (by omega)
      rw [this, hz2]; rfl
    clear hz1 hz2 hz3 hiB
    have HZ := Lib.hid (show (w.alloc (.cells zRow 5)).heap[w.heap.size]? = some (.cells (List.replicate 64 (Value.int .u8 0)).toArray 5 (0, 0)) by rw [heap_alloc_new, zRow_arr])
    have HKL := Lib.hid (bv_length ks)
    have HNk := Lib.hid hnk
    clear hnk
    have HBz := Lib.hid (show Below w.heap.size w (w.alloc (.cells zRow 5)) from Aft.alloc _ _)
    have HRz := Lib.hid (HRk.out.grow HBz.out)
    go_wp2_with ((refine wpList_copy_splice rfl (.tmp 16) (.tmp 17) 25 25 rfl 5 Tryd.underlying25 (by kernel_rfl) _ _ 64 64 (bv ks).length cap rfl rfl w.heap.size 0 (List.replicate 64 (Value.int .u8 0)) 5 HZ.out (bv ks) (by show _ = min _ _; have := HLk.out; have := HKL.out; have := HNk.out; omega) (fun h => ⟨rfl, HRz.out.addr h⟩) (by have := HLk.out; simp [bv_length]; omega) (bv_one _) w.heap.size w HBz.out (Nat.le_refl _) ?_; intro wm k1 k2; have hrow := held_start (b := b) ks HLk.out k1.out; have HBm := Lib.hid (Aft.trans HBk.out (show Aft w wm from k2)); have HRow := Lib.hid hrow; clear k1 k2 hrow))
    go_loopw [21] (fun v21 wr => ∃ i : Nat, i ≤ 64 ∧ v21 = .int .i64 i ∧ wr.rowIs w.heap.size 5 64 (heldRow ks b i) ∧ Aft w wr) (fun v _ => 64 - (intOf v).toNat)
    case atStart => exact ⟨0, by omega, rfl, HRow.out, HBm.out⟩
    case round =>
      obtain ⟨i, hi, rfl, hrow, hbw⟩ := hrel
      by_cases hlt : i < 64
      · have hlt' : (i : Int) < 64 := by omega
        have c0 := World.rowIs.cell hrow (i := i) hlt
        have fz := World.rowIs.frozen hrow i
        rw [heldRow_at] at c0
        go_wp2_with fail
        go_roundw
        case rel => exact ⟨i + 1, by omega, by go_num, (World.rowIs.set hrow i _).congr (heldRow_step ks b i), aft_set hbw (Below.size HBk.out) _⟩
        case measure => simp [intOf]; omega
      · obtain rfl : i = 64 := by omega
        have hlt' : ¬ ((64 : Nat) : Int) < 64 := by omega
        go_wp2_with fail
        go_ret
        exact ⟨_, _, rfl, held_end ks b (Below.size HBk.out) hrow, hbw⟩
  · have hl' : (64 : Int) < ((bv ks).length : Nat) := by rw [bv_length]; omega
    have hkey : key64 K0 ks = digest K0 ks := if_neg hl
    have hxl := digest_length K0 ks
    rw [hkey]
    generalize hX : digest K0 ks = X at hxl ⊢
    have HX := Lib.hid hX
    clear hkey hX
    go_enter Tryd.func66, Tryd.ntmps66
    go_wp2_with fail
    have hb1 : Aft w (w.alloc (.cells #[.slice ao (bv ks).length cap] 25)) := Aft.alloc _ _
    refine (sum_any K0 _ [ks] _ (TabK_fr HK.out (Fr.of_below (S := fun _ => False) hb1) (fun h => h)) (RdAll.one w _ ks _ HR.out) (by simp; omega)).mono ?_
    rintro e w3 ⟨rfl, hb3⟩
    rw [show ([ks] : List (List (BitVec 8))).flatten = ks by simp, HX.out]
    have HXL := Lib.hid hxl
    have HB3 := Lib.hid (show Below w.heap.size w w3 from Aft.trans hb1 hb3)
    have HS3 := Lib.hid (heap_alloc_new w3 (.cells key0 28))
    clear hxl hb1 hb3
    obtain ⟨iB, hiB, hz1, hz2, hz3⟩ := info_parts info_byte
    have hmk : ∀ w, (Instr.makeSlice 25 (.int .i64 64) (.int .i64 64)).run Tryd.prog w = .ok (.slice (some ⟨w.heap.size, 0, none⟩) 64 64) (w.alloc (.cells zRow 5)) := fun w => by
      have := run_make (P := Tryd.prog) w 25 5 iB (.int .u8 0) Tryd.underlying25 hiB hz1 .i64 .i64 64 64 (by omega) (by omega) (by rw [hz3]; omega) (by omega)
      rw [this, hz2]; rfl
    clear hz1 hz2 hz3 hiB
    have hlk : X.length ≤ 64 := by rw [HXL.out]; omega
    have hnk : (bv X).length = 32 := by rw [bv_length, HXL.out]
    have HLk := Lib.hid hlk
    have HKL := Lib.hid (bv_length X)
    have HNk := Lib.hid hnk
    clear hlk hnk
    go_wp2_with (first
      | (refine wpList_store_keyX rfl (.tmp 5) (.tmp 13) rfl w3.heap.size X HXL.out rfl rfl HS3.out ?_; intro wk q2 q3; have HBk := Lib.hid (show Aft w wk from q3 w.heap.size w HB3.out.size (HB3.out.alloc HB3.out.size _)); have HRk := Lib.hid (Rd.of_key q2.out HXL.out); have HZ := Lib.hid (show (wk.alloc (.cells zRow 5)).heap[wk.heap.size]? = some (.cells (List.replicate 64 (Value.int .u8 0)).toArray 5 (0, 0)) by rw [heap_alloc_new, zRow_arr]); have HBz := Lib.hid (show Below wk.heap.size wk (wk.alloc (.cells zRow 5)) from Aft.alloc _ _); have HRz := Lib.hid (HRk.out.grow HBz.out); clear q2 q3)
      | (refine wpList_copy_splice rfl (.tmp 16) (.tmp 17) 25 25 rfl 5 Tryd.underlying25 (by kernel_rfl) _ _ 64 64 32 32 rfl rfl wk.heap.size 0 (List.replicate 64 (Value.int .u8 0)) 5 HZ.out (bv X) (by show _ = min _ _; have := HLk.out; have := HKL.out; have := HNk.out; omega) (fun h => ⟨rfl, HRz.out.addr h⟩) (by have := HLk.out; simp [bv_length]; omega) (bv_one _) wk.heap.size wk HBz.out (Nat.le_refl _) ?_; intro wm k1 k2; have hrow := held_start (b := b) X HLk.out k1.out; have HBm := Lib.hid (Aft.trans HBk.out (show Aft wk wm from k2)); have HRow := Lib.hid hrow; clear k1 k2 hrow))
    go_loopw [21] (fun v21 wr => ∃ i : Nat, i ≤ 64 ∧ v21 = .int .i64 i ∧ wr.rowIs wk.heap.size 5 64 (heldRow X b i) ∧ Aft w wr) (fun v _ => 64 - (intOf v).toNat)
    case atStart => exact ⟨0, by omega, rfl, HRow.out, HBm.out⟩
    case round =>
      obtain ⟨i, hi, rfl, hrow, hbw⟩ := hrel
      by_cases hlt : i < 64
      · have hlt' : (i : Int) < 64 := by omega
        have c0 := World.rowIs.cell hrow (i := i) hlt
        have fz := World.rowIs.frozen hrow i
        rw [heldRow_at] at c0
        go_wp2_with fail
        go_roundw
        case rel => exact ⟨i + 1, by omega, by go_num, (World.rowIs.set hrow i _).congr (heldRow_step X b i), aft_set hbw (Below.size HBk.out) _⟩
        case measure => simp [intOf]; omega
      · obtain rfl : i = 64 := by omega
        have hlt' : ¬ ((64 : Nat) : Int) < 64 := by omega
        go_wp2_with fail
        go_ret
        exact ⟨_, _, rfl, held_end X b (Below.size HBk.out) hrow, hbw⟩
end Go.Proofs.YtifehfcgmodmaaaDoor
/- mac.Mac: a sum with a key. -/
namespace Go.Proofs.YtifehfcgmodmaaaDoor
open Go Go.RowKit
/-- A sum with a key. -/
def macOf (K : Nat → BitVec 32) (k d : List (BitVec 8)) : List (BitVec 8) := digest K (heldB (key64 K k) 92 ++ digest K (heldB (key64 K k) 54 ++ d))
theorem macOf_length (K : Nat → BitVec 32) (k d : List (BitVec 8)) : (macOf K k d).length = 32 := digest_length K _
theorem RdAll.two {w : World} {v1 v2 : Value} {g : Nat} {t : TypeId} {fr : Nat × Nat} {l1 l2 : List (BitVec 8)} (hg : w.heap[g]? = some (.cells #[v1, v2] t fr)) (h1 : Rd w v1 (bv l1)) (h2 : Rd w v2 (bv l2)) : RdAll w (.slice (some ⟨g, 0, none⟩) 2 2) [l1, l2] := by
  refine ⟨[v1, v2], ⟨some ⟨g, 0, none⟩, 2, rfl, Nat.le_refl _, by omega, (fun h => by cases h), fun ad ha j u hu => ?_⟩, rfl, fun i u hu => ?_⟩
  · cases ha
    match j with
    | 0 => cases hu; simp [World.cell?, hg, Addr.add]
    | 1 => cases hu; simp [World.cell?, hg, Addr.add]
    | j + 2 => simp at hu
  · match i with
    | 0 => cases hu; exact h1
    | 1 => cases hu; exact h2
    | i + 2 => simp at hu
theorem run_sliceAt_key (w : World) (b : Nat) : (Instr.sliceAt 28 (.pointer (some ⟨b, 0, none⟩)) none none none).run Tryd.prog w = .ok (.slice (some ⟨b, 0, none⟩) 32 32) w := by kernel_rfl
theorem b54 : (54 : Int) = bn 54 := by decide
theorem b92 : (92 : Int) = bn 92 := by decide
set_option maxRecDepth 100000 in
set_option maxHeartbeats 2000000 in
theorem mac_any (vk vp : Value) (k : List (BitVec 8)) (ps : List (List (BitVec 8))) (w : World) (hK : TabK K0 1 w) (hrk : Rd w vk (bv k)) (hrp : RdAll w vp ps)
    (hk : k.length ≤ 1099511627776) (hp : ps.length ≤ 1099511627776) (hd : ps.flatten.length ≤ 1000000000000) :
    Calls Tryd.prog 26 #[vk, vp] w fun e w' => e = .returned (.agg (bv (macOf K0 k ps.flatten)).toArray) ∧ Below w.heap.size w w' := by
  have HK := Lib.hid hK
  have HR := Lib.hid hrk
  have HP := Lib.hid hrp
  have HD := Lib.hid hd
  obtain ⟨aok, capk, rfl, -, -, -, -⟩ := hrk
  obtain ⟨aop, capp, rfl, -⟩ := hrp.shape
  clear hK hrp hd
  go_enter Tryd.func26, Tryd.ntmps26
  have hba : Aft w (w.alloc (.cells key0 28)) := Aft.alloc _ _
  have hh := held_any (.slice aok (bv k).length capk) k 54 (w.alloc (.cells key0 28)) (TabK_fr HK.out (Fr.of_below (S := fun _ => False) hba) (fun h => h)) (HR.out.grow hba) hk
  rw [← b54] at hh
  have HH := Lib.hid hh
  clear hh hba
  go_wp2_with fail
  refine HH.out.mono ?_
  rintro e w2 ⟨a2, c2, rfl, ho2, hb2⟩
  have HR4 := Lib.hid ((Below.block hb2 w.heap.size (by rw [World.size_alloc]; omega)).trans (heap_alloc_new w (.cells key0 28)))
  have HB2 := Lib.hid (show Aft w w2 from Aft.trans (Aft.alloc w _) hb2)
  have hRd2 := Rd.of_own ho2
  have hl2 := heldB_length (key64 K0 k) 54
  generalize hI : heldB (key64 K0 k) 54 = I at ho2 hRd2 hl2
  have HI := Lib.hid hI
  have HRd2 := Lib.hid (show Rd w2 (.slice a2 64 c2) (bv I) from hRd2)
  have HL2 := Lib.hid hl2
  have HOwn := Lib.hid (World.ownsRow_lit (base := w2.heap.size) (e := 25) (size := 1) w2 #[.slice a2 64 c2] 1 (Nat.le_refl _) (by decide) rfl)
  obtain ⟨vs, hv1, hv2, hv3⟩ := HP.out
  have HV1 := Lib.hid (hv1.grow (Aft.trans HB2.out (Aft.alloc w2 (.cells #[.slice a2 64 c2] 25))))
  have HV2 := Lib.hid hv2
  have HV3 := Lib.hid hv3
  have HPl := Lib.hid hp
  clear hI hRd2 hl2 ho2 hb2 hv1 hv2 hv3 hp
  go_wp2_with ((at_builtin; refine wpList_append_rd rfl _ _ 22 rfl w2.heap.size 25 (.slice none 0 0) 24 Tryd.underlying22 info_slice rfl (.slice (some ⟨w2.heap.size, 0, none⟩) 1 1) (.slice aop ps.length capp) [.slice a2 64 c2] vs rfl rfl HOwn.out HV1.out (RdAll.one_cell HV3.out) (by have := HPl.out; have := HV2.out; simp; omega) (by have := HPl.out; have := HV2.out; simp; omega) (by rw [World.size_alloc]; omega) ?_; intro v3 w3 k1 k2 k3; have hb3 := (show Below w2.heap.size w2 (w2.alloc (.cells #[.slice a2 64 c2] 25)) from Aft.alloc _ _).grown k2 (by rw [World.size_alloc]; omega) (fun g hg => by simp [Value.ownBlock] at hg; omega); have HB3 := Lib.hid (show Aft w2 w3 from hb3); have HW3 := Lib.hid (Aft.trans HB2.out hb3); have HALL := Lib.hid (RdAll.join (ps := [I]) (qs := ps) (Rd.of_own k1) rfl HV2.out (fun i v hv => (by cases i with | zero => cases hv; exact HRd2.out.grow hb3 | succ i => simp at hv)) (fun i v hv => (HV3.out i v hv).grow (Aft.trans HB2.out hb3))); clear k1 k2 k3 hb3))
  refine (sum_any K0 _ ([I] ++ ps) w3 (TabK_fr HK.out (Fr.of_below (S := fun _ => False) HW3.out) (fun h => h)) HALL.out (by have := HD.out; have := HL2.out; rw [show ([I] ++ ps).flatten = I ++ ps.flatten by simp, List.length_append]; omega)).mono ?_
  rintro e w4 ⟨rfl, hb4⟩
  rw [show ([I] ++ ps).flatten = I ++ ps.flatten by simp]
  generalize hJ : digest K0 (I ++ ps.flatten) = J
  have HJ := Lib.hid hJ
  have HJL := Lib.hid (show J.length = 32 by rw [← hJ]; exact digest_length K0 _)
  have HW4 := Lib.hid (show Below w.heap.size w w4 from Aft.trans HW3.out hb4)
  have HB4 := Lib.hid (Aft.trans HB3.out hb4)
  have HS4 := Lib.hid (heap_alloc_new w4 (.cells key0 28))
  clear hJ hb4
  go_wp2_with ((refine wpList_store_keyX rfl (.tmp 5) (.tmp 11) rfl w4.heap.size J HJL.out rfl rfl HS4.out ?_; intro w5 q2 q3; have HK5 := Lib.hid q2.out; have HW5 := Lib.hid (show Below w.heap.size w w5 from q3 w.heap.size w HW4.out.size (HW4.out.alloc HW4.out.size _)); have hs4 := Below.size HB4.out; have HB5 := Lib.hid (show Aft w2 w5 from q3 w2.heap.size w2 hs4 (Below.alloc HB4.out hs4 _)); clear q2 q3 hs4))
  have HR5 := Lib.hid ((Below.block HB5.out w.heap.size (heap_lt HR4.out)).trans HR4.out)
  have HKlen := Lib.hid hk
  have hal := fun wx : World => run_sliceAt_key wx w4.heap.size
  clear hk
  simp only [Act.put]
  refine wp_region_lexF (fun i => ([0, 2, 0, 1, 2] : List Nat).getD i 0) 5 (by kernel_rfl) (by kernel_rfl) ?_; intro wf hwf
  have HWf := Lib.hid (show Aft w5 wf by rw [hwf]; exact (Below.refl _ _).drew)
  have HBf := Lib.hid (show Below w.heap.size w wf by rw [hwf]; exact HW5.out.drew)
  clear hwf
  repeat (first | (refine lf_skip (by go_big_quiet_skip; exact wpQuiet_nil trivial) (by kernel_rfl) ?_; simp only [Act.put, List.setIfInBounds_toArray, List.set_cons_succ, List.set_cons_zero]) | (refine lf_quiet rfl (by go_big_quiet_want; exact quiet_false (by assumption)) (by kernel_rfl) rfl ?_; intro Kx hKx; go_big_quiet_op; go_big_quiet_on))
  refine lf_eff rfl (by go_big_quiet_want; exact quiet_false (by assumption)) (by kernel_rfl) ?_
  intro wg hg Kx hKx
  have HWg := Lib.hid (Aft.trans HWf.out hg)
  have HBg := Lib.hid (show Below w.heap.size w wg from Aft.trans HBf.out hg)
  have hh := held_any (.slice aok (bv k).length capk) k 92 wg (TabK_fr HK.out (Fr.of_below (S := fun _ => False) HBg.out) (fun h => h)) (HR.out.grow HBg.out) HKlen.out
  rw [← b92] at hh
  have HH2 := Lib.hid hh
  have hfg : Aft wf wg := hg
  clear hh hg
  go_wp2_with fail
  refine HH2.out.mono ?_
  rintro e w6 ⟨a6, c6, rfl, ho6, hb6⟩
  have hRd6 := Rd.of_own ho6
  have hl6 := heldB_length (key64 K0 k) 92
  generalize hO : heldB (key64 K0 k) 92 = O at ho6 hRd6 hl6
  have HO := Lib.hid hO
  have HRd6 := Lib.hid hRd6
  have HL6 := Lib.hid hl6
  have HB6 := Lib.hid (show Aft wf w6 from Aft.trans hfg hb6)
  go_wp2_with fail
  refine ⟨hb6, ?_⟩
  clear hO hRd6 hl6 ho6 hb6 hfg
  repeat (first | (refine lf_skip (by go_big_quiet_skip; exact wpQuiet_nil trivial) (by kernel_rfl) ?_; simp only [Act.put, List.setIfInBounds_toArray, List.set_cons_succ, List.set_cons_zero]) | (refine lf_quiet rfl (by go_big_quiet_want; exact quiet_false (by assumption)) (by kernel_rfl) rfl ?_; intro Kx hKx; go_big_quiet_op; go_big_quiet_on))
  refine lf_fresh (.cells #[.slice a6 64 c6, .slice (some ⟨w4.heap.size, 0, none⟩) 32 32] 25) (fun g => .slice (some ⟨g, 0, none⟩) 2 2) rfl (by kernel_rfl) (fun w1 => by kernel_rfl) ?_
  intro w7 g7 h71 h72 h73
  simp only [Act.put, List.setIfInBounds_toArray, List.set_cons_succ, List.set_cons_zero]
  have HB7 := Lib.hid (Aft.trans HB6.out h71)
  have HG7 := Lib.hid h73
  have HW67 := Lib.hid h71
  clear h71 h72 h73
  refine lf_eff rfl (by go_big_quiet_want; exact quiet_false (by assumption)) (by kernel_rfl) ?_
  intro w8 h8 Kx hKx
  have HB8 := Lib.hid (show Below w.heap.size w w8 from Aft.trans HBf.out (Aft.trans HB7.out h8))
  have hal2 := RdAll.two (h8.get HG7.out) (HRd6.out.grow (Aft.trans HW67.out h8)) (Rd.of_key (X := J) (t := 28) (Aft.get (Aft.trans HWf.out (Aft.trans HB7.out h8)) HK5.out) HJL.out)
  have hsum := sum_any K0 _ [O, J] w8 (TabK_fr HK.out (Fr.of_below (S := fun _ => False) HB8.out) (fun h => h)) hal2 (by have := HJL.out; have := HL6.out; simp; omega)
  rw [show ([O, J] : List (List (BitVec 8))).flatten = O ++ J by simp] at hsum
  generalize hX : digest K0 (O ++ J) = X at hsum
  have HX := Lib.hid hX
  have HXL := Lib.hid (show X.length = 32 by rw [← hX]; exact digest_length K0 _)
  have HSum := Lib.hid hsum
  have HA8 := Lib.hid h8
  clear hal2 hsum hX h8
  go_wp2_with fail
  refine HSum.out.mono ?_
  rintro e w9 ⟨rfl, hb9⟩
  have HW9 := Lib.hid (Aft.trans HWf.out (Aft.trans HB7.out (Aft.trans HA8.out hb9)))
  have HF9 := Lib.hid (show Aft wf w9 from Aft.trans HB7.out (Aft.trans HA8.out hb9))
  go_wp2_with fail
  refine ⟨hb9, ?_⟩
  clear hb9
  refine lf_done ?_
  intro wa ha
  have HWa := Lib.hid (Aft.trans HF9.out ha)
  have HS := Lib.hid (show wa.heap[w.heap.size]? = some (.cells key0 28 (0, 0)) from Aft.get (Aft.trans HWf.out HWa.out) HR5.out)
  have HBa := Lib.hid (show Below w.heap.size w wa from Aft.trans HBf.out HWa.out)
  clear ha
  go_wp2_with ((refine wpList_store_keyX rfl (.tmp 4) (.tmp 16) rfl w.heap.size X HXL.out rfl rfl HS.out ?_; intro wb q2 q3; have HKb := Lib.hid q2.out; have HBb := Lib.hid (q3 w.heap.size w (Nat.le_refl _) HBa.out); clear q2 q3))
  have hsz8 : (Tryd.prog.info? 28).map (·.size) = some (bv X).toArray.size := by rw [List.size_toArray, bv_length, HXL.out]; kernel_rfl
  refine bodyPost_ret (results_cell_row rfl _ _ w.heap.size 28 (bv X).toArray (0, 0) _ rfl HKb.out Tryd.underlying28 rfl hsz8) rfl ?_
  refine ⟨?_, HBb.out⟩
  rw [← HX.out]
  unfold macOf
  rw [HO.out, HI.out, HJ.out]
end Go.Proofs.YtifehfcgmodmaaaDoor
/- law03.live: the chapter's example. -/
namespace Go.Proofs.YtifehfcgmodmaaaDoor
open Go Go.RowKit
def msgA : List (BitVec 8) := [84, 104, 101, 32, 113, 117, 105, 99, 107, 32, 98, 114, 111, 119, 110, 32, 102, 111, 120, 32]
def msgB : List (BitVec 8) := [106, 117, 109, 112, 115, 32, 111, 118, 101, 114, 32, 116, 104, 101, 32, 108, 97, 122, 121, 32, 100, 111, 103]
def msgK : List (BitVec 8) := [107, 101, 121]
set_option maxRecDepth 100000 in
theorem mac_live : (macOf K0 msgK (msgA ++ msgB)).take 4 = [0xf7, 0xbc, 0x83, 0xf4] := by decide +kernel
theorem take4_cells {X : List (BitVec 8)} {a b c e : BitVec 8} (h : X.take 4 = [a, b, c, e]) :
    (bv X).toArray[0]? = some (.int .u8 (bn a)) ∧ (bv X).toArray[1]? = some (.int .u8 (bn b)) ∧ (bv X).toArray[2]? = some (.int .u8 (bn c)) ∧ (bv X).toArray[3]? = some (.int .u8 (bn e)) := by
  match X, h with
  | x0 :: x1 :: x2 :: x3 :: xs, h =>
    simp only [List.take_succ_cons, List.take_zero, List.cons.injEq, and_true] at h
    obtain ⟨rfl, rfl, rfl, rfl⟩ := h
    exact ⟨rfl, rfl, rfl, rfl⟩
def live3W (w : World) : World := (((w.alloc (.cells (bv msgK).toArray 5 (3, 4))).alloc (.cells (bv msgA).toArray 5 (20, 21))).alloc (.cells (bv msgB).toArray 5 (23, 24))).alloc (.cells #[.slice (some ⟨w.heap.size + 1, 0, none⟩) 20 20, .slice (some ⟨w.heap.size + 2, 0, none⟩) 23 23] 25)
theorem live3_start (w : World) : Rd (live3W w) (.slice (some ⟨w.heap.size, 0, none⟩) 3 3) (bv msgK) ∧ RdAll (live3W w) (.slice (some ⟨w.heap.size + 1 + 1 + 1, 0, none⟩) 2 2) [msgA, msgB] ∧ Aft w (live3W w) := by
  have h1 := Rd.litF w (bv msgK) 5 (3, 4) (by decide)
  have h2 := Rd.litF (w.alloc (.cells (bv msgK).toArray 5 (3, 4))) (bv msgA) 5 (20, 21) (by decide)
  have h3 := Rd.litF ((w.alloc (.cells (bv msgK).toArray 5 (3, 4))).alloc (.cells (bv msgA).toArray 5 (20, 21))) (bv msgB) 5 (23, 24) (by decide)
  simp only [World.size_alloc, Nat.add_assoc, Nat.reduceAdd] at h2 h3
  have g4 : (live3W w).heap[w.heap.size + 1 + 1 + 1]? = some (.cells #[.slice (some ⟨w.heap.size + 1, 0, none⟩) 20 20, .slice (some ⟨w.heap.size + 2, 0, none⟩) 23 23] 25 (0, 0)) := by
    have := heap_alloc_new (((w.alloc (.cells (bv msgK).toArray 5 (3, 4))).alloc (.cells (bv msgA).toArray 5 (20, 21))).alloc (.cells (bv msgB).toArray 5 (23, 24))) (.cells #[.slice (some ⟨w.heap.size + 1, 0, none⟩) 20 20, .slice (some ⟨w.heap.size + 2, 0, none⟩) 23 23] 25)
    rw [World.size_alloc, World.size_alloc, World.size_alloc] at this
    exact this
  have a1 := Aft.alloc w (.cells (bv msgK).toArray 5 (3, 4))
  have a2 := Aft.alloc (w.alloc (.cells (bv msgK).toArray 5 (3, 4))) (.cells (bv msgA).toArray 5 (20, 21))
  have a3 := Aft.alloc ((w.alloc (.cells (bv msgK).toArray 5 (3, 4))).alloc (.cells (bv msgA).toArray 5 (20, 21))) (.cells (bv msgB).toArray 5 (23, 24))
  have a4 := Aft.alloc (((w.alloc (.cells (bv msgK).toArray 5 (3, 4))).alloc (.cells (bv msgA).toArray 5 (20, 21))).alloc (.cells (bv msgB).toArray 5 (23, 24))) (.cells #[.slice (some ⟨w.heap.size + 1, 0, none⟩) 20 20, .slice (some ⟨w.heap.size + 2, 0, none⟩) 23 23] 25)
  exact ⟨h1.grow (Aft.trans a2 (Aft.trans a3 a4)), RdAll.two g4 (h2.grow (Aft.trans a3 a4)) (h3.grow a4), Aft.trans a1 (Aft.trans a2 (Aft.trans a3 a4))⟩
set_option maxRecDepth 100000 in
set_option maxHeartbeats 1000000 in
theorem live3_any (w : World) (hK : TabK K0 1 w) : Calls Tryd.prog 25 #[] w fun e w' => e = .returned (.bool true) ∧ Below w.heap.size w w' := by
  have HK := Lib.hid hK
  clear hK
  have hcv := fun (w : World) (C : Array Value) (n c : Nat) => Lib.run_convert_bytes_const (P := Tryd.prog) w 25 5 C n c Tryd.underlying25 Tryd.underlying5
  have hcv2 := fun (w : World) (o : Obj) (C : Array Value) (n c : Nat) => hcv (w.alloc o) C n c
  have hcv3 := fun (w : World) (o1 o2 : Obj) (C : Array Value) (n c : Nat) => hcv ((w.alloc o1).alloc o2) C n c
  simp only [World.size_alloc, Nat.add_assoc, Nat.reduceAdd] at hcv2 hcv3
  go_enter Tryd.func25, Tryd.ntmps25
  go_wp2_with fail
  obtain ⟨s1, s2, s3⟩ := live3_start w
  refine (mac_any _ _ msgK [msgA, msgB] (live3W w) (TabK_fr HK.out (Fr.of_below (S := fun _ => False) s3) (fun h => h)) s1 s2 (by decide) (by decide) (by decide)).mono ?_
  rintro e w3 ⟨rfl, hb3⟩
  rw [show ([msgA, msgB] : List (List (BitVec 8))).flatten = msgA ++ msgB from rfl]
  have hc := take4_cells mac_live
  have hl := macOf_length K0 msgK (msgA ++ msgB)
  generalize macOf K0 msgK (msgA ++ msgB) = Y at hc hl ⊢
  have HL := Lib.hid hl
  have HC := Lib.hid hc
  have HB3 := Lib.hid (show Below w.heap.size w w3 from Aft.trans s3 hb3)
  have HS3 := Lib.hid (heap_alloc_new w3 (.cells key0 28))
  clear hc hl s1 s2 s3 hb3 hcv hcv2 hcv3
  go_wp2_with ((refine wpList_store_keyX rfl (.tmp 1) (.tmp 9) rfl w3.heap.size Y HL.out rfl rfl HS3.out ?_; intro w4 q2 q3; have h14 := row_cells q2.out HC.out; have HB4 := Lib.hid (q3 w.heap.size w HB3.out.size (HB3.out.alloc HB3.out.size _)); clear q3; obtain ⟨c0, c1, c2, c3⟩ := h14))
  go_ret
  exact ⟨rfl, HB4.out⟩
end Go.Proofs.YtifehfcgmodmaaaDoor
/- mac.Equal. -/
namespace Go.Proofs.YtifehfcgmodmaaaDoor
open Go Go.RowKit
def accOf (xs ys : List (BitVec 8)) : Nat → BitVec 8
  | 0 => 0
  | i + 1 => accOf xs ys i ||| (xs.getD i 0 ^^^ ys.getD i 0)
theorem bn_or (x y : BitVec 8) : bits .or .u8 (bn x) (bn y) = bn (x ||| y) := by
  have e : ∀ x : BitVec 8, BitVec.ofInt 8 (bn x) = x := fun x => by
    apply BitVec.eq_of_toNat_eq
    have := x.isLt
    unfold bn
    rw [BitVec.toNat_ofInt]
    omega
  show IntKind.u8.wrap ((BitVec.ofInt 8 (bn x) ||| BitVec.ofInt 8 (bn y)).toNat : Int) = _
  rw [e, e]
  have := (x ||| y).isLt
  unfold bn
  rw [IntKind.wrap_u8]
  omega
theorem or_zero {x y : BitVec 8} : x ||| y = 0 ↔ x = 0 ∧ y = 0 := by
  constructor
  · intro h
    have h1 : ∀ i, (x ||| y).getLsbD i = false := fun i => by rw [h]; simp
    refine ⟨BitVec.eq_of_getLsbD_eq fun i hi => ?_, BitVec.eq_of_getLsbD_eq fun i hi => ?_⟩
    · have := h1 i; simp only [BitVec.getLsbD_or, Bool.or_eq_false_iff] at this; simpa using this.1
    · have := h1 i; simp only [BitVec.getLsbD_or, Bool.or_eq_false_iff] at this; simpa using this.2
  · rintro ⟨rfl, rfl⟩; rfl
theorem acc_zero (xs ys : List (BitVec 8)) : ∀ i, accOf xs ys i = 0 ↔ ∀ j, j < i → xs.getD j 0 = ys.getD j 0
  | 0 => by simp [accOf]
  | i + 1 => by
    rw [accOf, or_zero, acc_zero xs ys i]
    constructor
    · rintro ⟨h1, h2⟩ j hj
      by_cases h : j = i
      · subst h; exact BitVec.xor_eq_zero_iff.1 h2
      · exact h1 j (by omega)
    · intro h
      exact ⟨fun j hj => h j (by omega), BitVec.xor_eq_zero_iff.2 (h i (by omega))⟩
theorem acc_end (xs ys : List (BitVec 8)) (h : xs.length = ys.length) : (bn (accOf xs ys xs.length) == 0) = decide (xs = ys) := by
  have e : accOf xs ys xs.length = 0 ↔ xs = ys := by
    rw [acc_zero]
    constructor
    · intro h2
      apply List.ext_getElem h
      intro i h3 h4
      have := h2 i h3
      simpa [List.getD, List.getElem?_eq_getElem h3, List.getElem?_eq_getElem h4] using this
    · rintro rfl j _; rfl
  by_cases h3 : xs = ys
  · rw [e.2 h3]; simp [h3, bn]
  · have h4 : accOf xs ys xs.length ≠ 0 := fun h5 => h3 (e.1 h5)
    have h5 : bn (accOf xs ys xs.length) ≠ 0 := fun h6 => h4 (bn_inj (y := 0) (by rw [h6]; rfl))
    simp [h3, h5]
theorem Rd.cell_at {w : World} {g o n cap : Nat} {xs : List (BitVec 8)} (h : Rd w (.slice (some ⟨g, o, none⟩) n cap) (bv xs)) {i : Nat} (hi : i < xs.length) : w.cell? ⟨g, o + i, none⟩ = some (.int .u8 (bn (xs.getD i 0))) := by
  obtain ⟨ao', cap', hv, h1, h2, h3, h4⟩ := h
  cases hv
  have := h4 _ rfl i (.int .u8 (bn (xs.getD i 0))) (by simp [bv, List.getD, List.getElem?_eq_getElem hi])
  rwa [Addr.add_lit] at this
theorem Rd.some_of {w : World} {ao : Option Addr} {n cap : Nat} {xs : List Value} (h : Rd w (.slice ao n cap) xs) (hx : 0 < xs.length) : ∃ g o, ao = some ⟨g, o, none⟩ ∧ n = xs.length ∧ xs.length ≤ cap := by
  have hs := h.sl
  obtain ⟨g, o, cap', hv, _⟩ := h.at hx
  cases hv
  exact ⟨g, o, rfl, rfl, hs.2.1⟩
attribute [local go_sem] bn_xor bn_or
set_option maxRecDepth 100000 in
set_option maxHeartbeats 1000000 in
theorem macEq_any (va vb : Value) (xs ys : List (BitVec 8)) (w : World) (hra : Rd w va (bv xs)) (hrb : Rd w vb (bv ys)) :
    Calls Tryd.prog 29 #[va, vb] w fun e w' => e = .returned (.bool (decide (xs = ys))) ∧ Below w.heap.size w w' := by
  have HA := Lib.hid hra
  have HB := Lib.hid hrb
  obtain ⟨aoa, capa, rfl, -, -, -, -⟩ := hra
  obtain ⟨aob, capb, rfl, -, -, -, -⟩ := hrb
  go_enter Tryd.func29, Tryd.ntmps29
  by_cases hl : xs.length = ys.length
  · have hl' : (bv xs).length = (bv ys).length := by rw [bv_length, bv_length]; exact hl
    have HL := Lib.hid hl'
    rw [hl'] at HA ⊢
    clear hl'
    go_wp2_with fail
    go_loopw [5, 14] (fun v5 v14 wr => ∃ i : Nat, i ≤ xs.length ∧ v14 = .int .i64 i ∧ v5 = .int .u8 (bn (accOf xs ys i)) ∧ Aft w wr) (fun _ v _ => xs.length - (intOf v).toNat)
    case atStart => exact ⟨0, by omega, rfl, rfl, Aft.refl _⟩
    case round =>
      obtain ⟨i, hi, rfl, rfl, hbw⟩ := hrel
      by_cases hlt : i < xs.length
      · have hlt' : (i : Int) < ((bv ys).length : Nat) := by rw [bv_length]; omega
        have hi63 : (i : Int) + 1 ≤ 9223372036854775807 := by have := HA.out.sl; rw [bv_length] at this; omega
        obtain ⟨ga, oa, rfl, -, hca⟩ := HA.out.some_of (by rw [bv_length]; omega)
        obtain ⟨gb, ob, rfl, -, hcb⟩ := HB.out.some_of (by rw [bv_length]; omega)
        have hRA := Lib.hid (HA.out.grow hbw)
        have hRB := Lib.hid (HB.out.grow hbw)
        have HBw := Lib.hid hbw
        clear hbw
        go_wp2_with fail
        refine wp_region_lexF (fun i => ([] : List Nat).getD i 0) 12 (by kernel_rfl) (by kernel_rfl) ?_; intro wi hwi
        have HWi := Lib.hid (show Aft wr wi by rw [hwi]; exact (Below.refl _ _).drew)
        clear hwi
        have cA := fun u : Later wi.heap.size wi => (hRA.out.grow (Aft.trans HWi.out u.h)).cell_at hlt
        have cB := fun u : Later wi.heap.size wi => (hRB.out.grow (Aft.trans HWi.out u.h)).cell_at (xs := ys) (i := i) (by omega)
        repeat (first | (refine lf_skip (by go_big_quiet_skip; exact wpQuiet_nil trivial) (by kernel_rfl) ?_; simp only [Act.put, List.setIfInBounds_toArray, List.set_cons_succ, List.set_cons_zero]) | (refine lf_quiet rfl (by go_big_quiet_want; exact quiet_false (by assumption)) (by kernel_rfl) rfl ?_; intro Kx hKx; go_big_quiet_op; go_big_quiet_on))
        refine lf_done ?_
        intro wj hj
        have HJ := Lib.hid (Aft.trans HBw.out (Aft.trans HWi.out hj))
        clear hj
        go_wp2_with fail
        go_roundw
        case rel => exact ⟨i + 1, by omega, by go_num, by simp [accOf], HJ.out⟩
        case measure => simp [intOf]; omega
      · obtain rfl : i = xs.length := by omega
        have hlt' : ¬ (((xs.length : Nat) : Int) < ((bv ys).length : Nat)) := by rw [bv_length]; omega
        have he := acc_end xs ys hl
        go_wp2_with fail
        go_ret
        exact ⟨by have h9 := he; rw [hl] at h9; exact congrArg (fun b => Ending.returned (.bool b)) h9, hbw⟩
  · have hl' : ¬ (bv xs).length = (bv ys).length := by rw [bv_length, bv_length]; exact hl
    have hne : decide (xs = ys) = false := decide_eq_false fun h => hl (by rw [h])
    go_wp2_with fail
    go_ret
    exact ⟨by rw [hne]; rfl, Below.refl _ _⟩
end Go.Proofs.YtifehfcgmodmaaaDoor
