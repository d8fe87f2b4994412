/- law02.ShaRest, walked whole. -/
import Derived.Test.YtifehfcgmodmaaaDoorShaLong
import Derived.Test.YtifehfcgmodmaaaDoorLexF
import Derived.Test.YtifehfcgmodmaaaDoorCut
namespace Go.Proofs.YtifehfcgmodmaaaDoor
open Go Go.RowKit
theorem bv_nilN : (bv ([] : List (BitVec 8))).length = 0 := rfl
theorem write_ok (K : Nat → BitVec 32) (s : St) (N : Nat) (vr vp : Value) (rest : List (BitVec 8)) (ps : List (List (BitVec 8))) (w : World) (hK : TabK K 1 w) (hrd : Rd w vr (bv rest)) (hp : RdAll w vp ps)
    (hc : chk s N (bv rest).length = 0) (h3 : N + ps.flatten.length ≤ 1099511627776) :
    Calls Tryd.prog 27 #[.agg #[.int .u32 (wn s.a), .int .u32 (wn s.b), .int .u32 (wn s.c), .int .u32 (wn s.d), .int .u32 (wn s.e), .int .u32 (wn s.f), .int .u32 (wn s.g), .int .u32 (wn s.h), .int .u64 (N : Int), vr], vp] w fun e w' =>
      ∃ st N' rs ao cap, st = shaSt K s (rest ++ ps.flatten) ∧ N' = N + ps.flatten.length ∧ rs = restOf (rest ++ ps.flatten) ∧ e = .returned (.tuple #[.agg #[.int .u32 (wn st.a), .int .u32 (wn st.b), .int .u32 (wn st.c), .int .u32 (wn st.d), .int .u32 (wn st.e), .int .u32 (wn st.f), .int .u32 (wn st.g), .int .u32 (wn st.h), .int .u64 (N' : Int), .slice ao (bv rs).length cap], .int .i64 0]) ∧
        w'.ownsRow w.heap.size 5 1 (.slice ao (bv rs).length cap) (bv rs).length (bv rs) ∧ Below w.heap.size w w' := by
  obtain ⟨c1, c2, c3⟩ := chk_ok hc
  rw [bv_length] at c2
  refine (write_any K s N vr vp rest ps w hK hrd hp (by omega) (by omega) (by omega)).mono ?_
  rintro e w' ⟨st, N', rs, er, vr', hw, rfl, ho, hb⟩
  unfold wrote at hw
  rw [if_pos hc, if_pos h3] at hw
  simp only [Prod.mk.injEq] at hw
  obtain ⟨h1, h2, h3, rfl⟩ := hw
  obtain ⟨ao, cap, rfl⟩ := own_shape ho
  exact ⟨st, N', rs, ao, cap, h1, h2, h3, rfl, ho, hb⟩
theorem iv_chk : chk iv 0 (bv ([] : List (BitVec 8))).length = 0 := chk_mk (by omega) rfl (fun _ => rfl)
/-- The whole blocks of a text leave nothing, and come to the same state. -/
theorem shaSt_whole (K : Nat → BitVec 32) (s : St) (d : List (BitVec 8)) (n : Nat) (hn : n = d.length / 64 * 64) : shaSt K s (d.take n) = shaSt K s d ∧ restOf (d.take n) = [] ∧ restOf d = d.drop n := by
  subst hn
  have h : (d.take (d.length / 64 * 64)).length / 64 = d.length / 64 := by rw [List.length_take]; omega
  refine ⟨?_, ?_, ?_⟩
  · unfold shaSt
    rw [h]
    conv => rhs; rw [← List.take_append_drop (d.length / 64 * 64) d]
    rw [List.length_append, List.length_take, List.length_drop, absorb_append _ _ _ _ _ (by rw [List.length_take]; omega)]
    congr 1
    omega
  · apply List.eq_nil_of_length_eq_zero
    rw [restOf_length, List.length_take]
    omega
  · unfold restOf
    rw [Nat.mul_comm]
theorem wrap64_mid {z : Int} (h0 : 0 ≤ z) (h1 : z < 9223372036854775808) : wrap64 z = z := by
  unfold wrap64
  omega
theorem whole_of (m : Nat) (h : m ≤ 4000) : wrap64 (wrap64 ((m : Int) / 64) * 64) = ((m / 64 * 64 : Nat) : Int) := by
  rw [wrap64_mid (z := (m : Int) / 64) (by omega) (by omega), wrap64_mid (by omega) (by omega)]
  omega
theorem RdAll.blk {w : World} {v : Value} {g : Nat} {t : TypeId} {fr : Nat × Nat} {l : List (BitVec 8)} (hg : w.heap[g]? = some (.cells #[v] t fr)) (h : Rd w v (bv l)) : RdAll w (.slice (some ⟨g, 0, none⟩) 1 1) [l] := by
  refine ⟨[v], ⟨some ⟨g, 0, none⟩, 1, rfl, Nat.le_refl _, by omega, (fun h => by cases h), fun ad ha j u hu => ?_⟩, rfl, fun i u hu => ?_⟩
  · cases ha
    cases j with
    | zero => cases hu; simp [World.cell?, hg, Addr.add]
    | succ j => simp at hu
  · cases i with
    | zero => cases hu; exact h
    | succ i => simp at hu
set_option maxRecDepth 100000 in
set_option maxHeartbeats 4000000 in
theorem shaRest_any (va vb : Value) (b more : List (BitVec 8)) (w : World) (hK : TabK K0 1 w) (hra : Rd w va (bv b)) (hrb : Rd w vb (bv more)) :
    Calls Tryd.prog 5 #[va, vb] w fun e w' => e = .returned (.bool true) ∧ Below w.heap.size w w' := by
  have HK := Lib.hid hK
  have HA := Lib.hid hra
  have HB := Lib.hid hrb
  obtain ⟨aoa, capa, rfl, -, -, -, -⟩ := hra
  obtain ⟨aob, capb, rfl, -, -, -, -⟩ := hrb
  clear hK
  have HL := Lib.hid (live2_any w HK.out)
  go_enter Tryd.func5, Tryd.ntmps5
  go_wp2_with fail
  refine HL.out.mono ?_
  rintro e w1 ⟨rfl, hb1⟩
  by_cases h1 : (bv b).length > 2000
  · have h1' : (2000 : Int) < ((bv b).length : Nat) := by omega
    go_wp2_with fail
    go_ret
    exact ⟨rfl, hb1⟩
  · have h1' : ¬ (2000 : Int) < ((bv b).length : Nat) := by omega
    by_cases h2 : (bv more).length > 2000
    · have h2' : (2000 : Int) < ((bv more).length : Nat) := by omega
      go_wp2_with fail
      go_ret
      exact ⟨rfl, hb1⟩
    · have h2' : ¬ (2000 : Int) < ((bv more).length : Nat) := by omega
      have HB1 := Lib.hid hb1
      clear hb1
      go_wp2_with fail
      refine (new_any' _).mono ?_
      rintro e w2 ⟨rfl, hb2⟩
      have hb02 := HB1.out.trans (hb2.mono HB1.out.size)
      have HB2 := Lib.hid hb02
      clear hb2 hb02
      go_wp2_with fail
      have hlb : b.length ≤ 2000 := by rw [bv_length] at h1; omega
      have hlm : more.length ≤ 2000 := by rw [bv_length] at h2; omega
      have hba : Below w2.heap.size w2 (w2.alloc (.cells #[.slice aoa (bv b).length capa] 25)) := (Below.refl _ _).alloc (Nat.le_refl _) _
      have hbb := HB2.out.trans (hba.mono HB2.out.size)
      refine (write_ok K0 iv 0 _ _ [] [b] _ (TabK_fr HK.out (Fr.of_below (S := fun _ => False) hbb) (fun h => h)) (Rd.nil _) (RdAll.one w2 _ b _ (HA.out.grow HB2.out)) iv_chk (by simp; omega)).mono ?_
      rintro e w3 ⟨st1, N1, rs1, a1, c1, e1, e2, e3, rfl, ho1, hb3⟩
      have HB3 := Lib.hid (hbb.trans (hb3.mono hbb.size))
      have HO1 := Lib.hid ho1
      have HS3 := Lib.hid (heap_alloc_new w3 (.cells zero10 37))
      have hN1 : N1 ≤ 2000 := by rw [e2]; simp; omega
      have hc1 : chk st1 N1 (bv rs1).length = 0 := by rw [e1, e2, e3]; exact wrote_chk iv_chk (by simp; omega)
      have HC1 := Lib.hid hc1
      have E1 := Lib.hid e1
      have E2 := Lib.hid e2
      have E3 := Lib.hid e3
      clear hba hbb hb3 ho1 e1 e2 e3 hc1
      go_wp2_with ((refine wpList_store_sha rfl (.tmp 6) (.tmp 31) rfl w3.heap.size #[.int .u32 (wn st1.a), .int .u32 (wn st1.b), .int .u32 (wn st1.c), .int .u32 (wn st1.d), .int .u32 (wn st1.e), .int .u32 (wn st1.f), .int .u32 (wn st1.g), .int .u32 (wn st1.h), .int .u64 (N1 : Int), .slice a1 (bv rs1).length c1] rfl rfl rfl (by kernel_rfl) zero10 rfl HS3.out ?_; intro w4 q2 q3 q4; have hq2 := q2.out; have hR4 := sha_row (s := st1) (N := N1) (vr := .slice a1 (bv rs1).length c1) hq2; obtain ⟨g0, g1, g2, g3, g4, g5, g6, g7, g8, g9⟩ := sha_all hR4; have HB4 := Lib.hid (q3 w.heap.size w HB3.out.size (HB3.out.alloc HB3.out.size _)); have HR4 := Lib.hid hR4; clear q3 hR4 hq2))
      have hl4 : w3.heap.size < w4.heap.size := HR4.out.lt
      have hba : Below w4.heap.size w4 (w4.alloc (.cells #[.slice aob (bv more).length capb] 25)) := (Below.refl _ _).alloc (Nat.le_refl _) _
      have hbb := HB4.out.trans (hba.mono HB4.out.size)
      have HRd1 := Lib.hid ((Rd.of_own HO1.out).keep (w' := w4) fun g _ _ hlt => (q4.out g (by omega)).trans (Below.heap_alloc _ _ _ hlt))
      clear g0 g1 g2 g3 g4 g5 g6 g7 g8 g9
      refine (write_ok K0 st1 N1 _ _ rs1 [more] _ (TabK_fr HK.out (Fr.of_below (S := fun _ => False) hbb) (fun h => h)) (HRd1.out.grow hba) (RdAll.one w4 _ more _ (HB.out.grow HB4.out)) HC1.out (by simp; omega)).mono ?_
      rintro e w5 ⟨st2, N2, rs2, a2, c2, e1, e2, e3, rfl, ho2, hb5⟩
      have HB5 := Lib.hid (hbb.trans (hb5.mono hbb.size))
      have HO2 := Lib.hid ho2
      have HS5 := Lib.hid (heap_alloc_new w5 (.cells zero10 37))
      have hN2 : N2 = b.length + more.length := by rw [e2, E2.out]; simp
      have HN2 := Lib.hid hN2
      have ht2 : st2 = shaSt K0 iv (b ++ more) ∧ rs2 = restOf (b ++ more) := by
        rw [e1, e3, E1.out, E3.out]
        have := sha_step K0 iv b more
        simp only [List.nil_append, List.flatten_cons, List.flatten_nil, List.append_nil]
        exact this
      obtain ⟨ht, hr⟩ := ht2
      have HT2 := Lib.hid ht
      have HR2 := Lib.hid hr
      have hl45 : w4.heap.size ≤ w5.heap.size := (hba.trans (hb5.mono hba.size)).size
      clear hba hbb hb5 ho2 e1 e2 e3 ht hr hN2
      have HW6 := Lib.hid (World.ownsRow_nil w5 w.heap.size 5 1)
      go_wp2_with (first
        | (refine wpList_store_sha rfl (.tmp 8) (.tmp 38) rfl w5.heap.size #[.int .u32 (wn st2.a), .int .u32 (wn st2.b), .int .u32 (wn st2.c), .int .u32 (wn st2.d), .int .u32 (wn st2.e), .int .u32 (wn st2.f), .int .u32 (wn st2.g), .int .u32 (wn st2.h), .int .u64 (N2 : Int), .slice a2 (bv rs2).length c2] rfl rfl rfl (by kernel_rfl) zero10 rfl HS5.out ?_; intro w6 q5 q6 q7; have hq5 := q5.out; have hR6 := sha_row (s := st2) (N := N2) (vr := .slice a2 (bv rs2).length c2) hq5; have HB6 := Lib.hid (q6 w.heap.size w HB5.out.size (HB5.out.alloc HB5.out.size _)); have HR6 := Lib.hid hR6; have HRd2 := Lib.hid ((Rd.of_own HO2.out).keep (w' := w6) fun g _ _ hlt => (q7.out g (by omega)).trans (Below.heap_alloc _ _ _ hlt)); have HO6 := Lib.hid (World.ownsRow_nil w6 w6.heap.size 5 1); clear q6 hR6 hq5)
        | (at_builtin; refine wpList_append_rd rfl _ _ 25 rfl w6.heap.size 5 (.int .u8 0) 1 Tryd.underlying25 info_byte rfl (.slice none 0 0) (.slice aoa (bv b).length capa) [] (bv b) rfl rfl HO6.out (HA.out.grow HB6.out) (bv_one _) (by simp [bv_length]; omega) (by simp [bv_length]; omega) (Nat.le_refl _) ?_; intro v7 w7 k1 k2 k3; have HB7 := Lib.hid ((Below.refl w6.heap.size w6).grown k2 (Nat.le_refl _) (by simp [Value.ownBlock])); have HO7 := Lib.hid (show w7.ownsRow w6.heap.size 5 1 v7 (bv b).length (bv b) from k1); have HV7 := Lib.hid k3; clear k1 k2 k3)
        | (at_builtin; refine wpList_append_rd rfl _ _ 25 rfl w6.heap.size 5 (.int .u8 0) 1 Tryd.underlying25 info_byte rfl v7 (.slice aob (bv more).length capb) (bv b) (bv more) rfl rfl HO7.out (HB.out.grow (HB6.out.trans (HB7.out.mono HB6.out.size))) (bv_one _) (by simp [bv_length]; omega) (by simp [bv_length]; omega) HB7.out.size ?_; intro v8 w8 k1 k2 k3; have HB8 := Lib.hid (HB7.out.grown k2 (HB7.out.size) (fun g hg => (own_lt HO7.out hg).1)); have k4 : w8.ownsRow w6.heap.size 5 1 v8 (bv (b ++ more)).length (bv (b ++ more)) := (by rw [bv_append]; exact k1); obtain ⟨a8, c8, rfl⟩ := own_shape k4; have HO8 := Lib.hid k4; clear k1 k2 k3 k4))
      generalize hd : b ++ more = d at *
      have hdl : d.length = b.length + more.length := by rw [← hd, List.length_append]
      clear hd
      have hdl2 : (bv d).length = d.length := bv_length d
      generalize hn : d.length / 64 * 64 = n
      have hw : wrap64 (wrap64 (((bv d).length : Nat) / 64 : Int) * 64) = (n : Nat) := by
        rw [hdl2, whole_of d.length (by omega), hn]
      rw [hw]
      have HRd8 := Lib.hid (Rd.of_own HO8.out)
      have hsl8 := HRd8.out.sl
      obtain ⟨iB, hiB, -, hiz, -⟩ := info_parts info_byte
      have hcut := fun wx => cut_to (P := Tryd.prog) (ao := a8) (len := (bv d).length) (cap := c8) (n := n) Tryd.underlying25 (by omega) wx hiB
      have HRdn := Lib.hid (HRd8.out.to (n := n) (by omega))
      have HB8' := Lib.hid (HB6.out.trans (HB8.out.mono HB6.out.size))
      have hnd : n ≤ d.length ∧ n ≤ (bv d).length := by omega
      have HDL := Lib.hid hdl
      have HDL2 := Lib.hid hdl2
      have HND := Lib.hid hnd
      have HN := Lib.hid hn
      have HLN := Lib.hid (show d.length ≤ 4000 by omega)
      clear hw hdl hdl2 hsl8 hnd hn
      refine wp_region_lexF (fun i => ([2, 0, 0, 0, 1, 2, 0, 0, 0, 1, 3, 0] : List Nat).getD i 0) 12 (by kernel_rfl) (by kernel_rfl) ?_; intro wr hwr
      have HBr := Lib.hid (show Below w.heap.size w wr by rw [hwr]; exact HB8'.out.drew)
      have H8r := Lib.hid (show Aft w8 wr by rw [hwr]; exact (Below.refl _ _).drew)
      clear hwr
      refine lf_eff rfl (by go_big_quiet_want; exact quiet_false (by assumption)) (by kernel_rfl) ?_; intro wa ha Kx hKx; go_wp2_with fail
      refine (new_any' _).mono ?_
      rintro e wb ⟨rfl, hb⟩
      go_wp2_with fail
      refine ⟨hb, ?_⟩
      have Hb := Lib.hid (Aft.trans ha hb)
      clear ha hb
      repeat (first | (refine lf_skip (by go_big_quiet_skip; exact wpQuiet_nil trivial) (by kernel_rfl) ?_; simp only [Act.put, List.setIfInBounds_toArray, List.set_cons_succ, List.set_cons_zero]) | (refine lf_quiet rfl (by go_big_quiet_want; exact quiet_false (by assumption)) (by kernel_rfl) rfl ?_; intro Kx hKx; go_big_quiet_op; go_big_quiet_on))
      refine lf_fresh (.cells #[.slice a8 n c8] 25) (fun g => .slice (some ⟨g, 0, none⟩) 1 1) rfl (by kernel_rfl) (fun w1 => by kernel_rfl) ?_
      intro wc gc hc1 hc2 hc3
      simp only [Act.put, List.setIfInBounds_toArray, List.set_cons_succ, List.set_cons_zero]
      have Hc := Lib.hid (Aft.trans Hb.out hc1)
      have HC3 := Lib.hid hc3
      clear hc1 hc2 hc3
      refine lf_eff rfl (by go_big_quiet_want; exact quiet_false (by assumption)) (by kernel_rfl) ?_; intro wd hd Kx hKx; go_wp2_with fail
      have Hd := Lib.hid (Aft.trans Hc.out hd)
      have HBd := Lib.hid (show Below w.heap.size w wd from Aft.trans HBr.out Hd.out)
      have hlen8 : (bv (d.take n)).length = n := by rw [bv_length, List.length_take]; have := HND.out; omega
      have HRn := Lib.hid (show Rd wd (.slice a8 n c8) (bv (d.take n)) by have := HRdn.out.grow (Aft.trans H8r.out Hd.out); rw [← bv_take] at this; exact this)
      refine (write_ok K0 iv 0 _ _ [] [d.take n] _ (TabK_fr HK.out (Fr.of_below (S := fun _ => False) HBd.out) (fun h => h)) (Rd.nil _) (RdAll.blk (hd.get HC3.out) HRn.out) iv_chk (by simp; have := HLN.out; omega)).mono ?_
      rintro e we ⟨st3, N3, rs3, a3, c3, e1, e2, e3, rfl, ho3, hb3⟩
      have He := Lib.hid (Aft.trans Hd.out hb3)
      have E1 := Lib.hid e1
      have E3 := Lib.hid e3
      clear hd e1 e2 e3
      go_wp2_with fail
      refine ⟨hb3, ?_⟩
      clear hb3
      repeat (first | (refine lf_skip (by go_big_quiet_skip; exact wpQuiet_nil trivial) (by kernel_rfl) ?_; simp only [Act.put, List.setIfInBounds_toArray, List.set_cons_succ, List.set_cons_zero]) | (refine lf_quiet rfl (by go_big_quiet_want; exact quiet_false (by assumption)) (by kernel_rfl) rfl ?_; intro Kx hKx; go_big_quiet_op; go_big_quiet_on))
      refine lf_fresh (.cells zero10 37) (fun g => .pointer (some ⟨g, 0, none⟩)) rfl (by kernel_rfl) (fun w1 => by kernel_rfl) ?_
      intro wf gf hf1 hf2 hf3
      simp only [Act.put, List.setIfInBounds_toArray, List.set_cons_succ, List.set_cons_zero]
      have Hf := Lib.hid (Aft.trans He.out hf1)
      have HBf := Lib.hid (show Below w.heap.size w wf from Aft.trans HBr.out Hf.out)
      refine lf_store rfl (by kernel_rfl) 37 (.tmp 12) (.tmp 55) rfl gf #[.int .u32 (wn st3.a), .int .u32 (wn st3.b), .int .u32 (wn st3.c), .int .u32 (wn st3.d), .int .u32 (wn st3.e), .int .u32 (wn st3.f), .int .u32 (wn st3.g), .int .u32 (wn st3.h), .int .u64 (N3 : Int), .slice a3 (bv rs3).length c3] rfl rfl _ zero10 Hf.out hf2 hf3 (by kernel_rfl) rfl (by kernel_rfl) ?_
      intro wg hg1 hg2 hg3
      simp only [Act.put]
      repeat (first | (refine lf_skip (by go_big_quiet_skip; exact wpQuiet_nil trivial) (by kernel_rfl) ?_; simp only [Act.put, List.setIfInBounds_toArray, List.set_cons_succ, List.set_cons_zero]) | (refine lf_quiet rfl (by go_big_quiet_want; exact quiet_false (by assumption)) (by kernel_rfl) rfl ?_; intro Kx hKx; go_big_quiet_op; go_big_quiet_on))
      refine lf_done ?_
      intro wh hwh
      go_wp2_with fail
      clear hlen8
      have hwl := shaSt_whole K0 iv d n HN.out.symm
      have hrs3 : rs3 = [] := by rw [E3.out]; simpa using hwl.2.1
      have hst3 : st3 = st2 := by rw [E1.out, HT2.out]; simpa using hwl.1
      have hN2 : N2 = (bv d).length := by rw [HN2.out, HDL2.out, HDL.out]
      have hrs2 : rs2 = d.drop n := by rw [HR2.out]; exact hwl.2.2
      subst hrs3 hst3 hN2 hrs2
      obtain ⟨ax, hcf, hrdx⟩ := cut_from_ex (P := Tryd.prog) Tryd.underlying25 hiB hiz HRd8.out (n := n) HND.out.2
      clear hcut
      have heq := run_eq_st st3 st3 _ rfl
      simp only [decide_true] at heq
      have Hw8h := Lib.hid (Aft.trans H8r.out (Aft.trans hg2 hwh))
      have HRX := Lib.hid (show Rd wh (.slice ax ((bv d).length - n) (c8 - n)) (bv (d.drop n)) by rw [bv_drop]; exact hrdx.grow Hw8h.out)
      clear hrdx
      have HG8 := Lib.hid (HR6.out.of_block (Below.block (Aft.trans HB8.out Hw8h.out) _ HR6.out.lt))
      have HGg := Lib.hid (Aft.get hwh hg1.out)
      have HBh := Lib.hid (Aft.trans HBr.out (Aft.trans hg2 hwh))
      clear hg1 hg2 hg3 hwh h1' h2'
      have hL4 : (bv d).length ≤ 4000 := by rw [HDL2.out]; exact HLN.out
      have hb0 := bv_nilN
      refine wp_region_lexF (fun i => ([0, 0, 0, 0, 0, 0, 0, 0, 0, 0, 0, 0, 0, 0, 0, 0, 0, 0, 0, 2] : List Nat).getD i 0) 43 (by kernel_rfl) (by kernel_rfl) ?_; intro wi hwi
      have HBi := Lib.hid (show Aft wh wi by rw [hwi]; exact (Below.refl _ _).drew)
      clear hwi
      have L8 := fun (u : Later wi.heap.size wi) => sha_all (HG8.out.of_block (Below.block (Aft.trans HBi.out u.h) _ HG8.out.lt))
      have Lg := fun (u : Later wi.heap.size wi) => sha_all (sha_row (s := st3) (N := N3) (vr := .slice a3 (bv []).length c3) (Aft.get (Aft.trans HBi.out u.h) HGg.out))
      simp only [forall_and] at L8 Lg
      obtain ⟨e0, e1, e2, e3, e4, e5, e6, e7, e8, e9⟩ := L8
      obtain ⟨f0, f1, f2, f3, f4, f5, f6, f7, f8, f9⟩ := Lg
      repeat (first | (refine lf_skip (by go_big_quiet_skip; exact wpQuiet_nil trivial) (by kernel_rfl) ?_; simp only [Act.put, List.setIfInBounds_toArray, List.set_cons_succ, List.set_cons_zero]) | (refine lf_quiet rfl (by go_big_quiet_want; exact quiet_false (by assumption)) (by kernel_rfl) rfl ?_; intro Kx hKx; go_big_quiet_op; go_big_quiet_on))
      refine lf_eff rfl (by go_big_quiet_want; exact quiet_false (by assumption)) (by kernel_rfl) ?_; intro wj hj Kx hKx; go_wp2_with fail
      refine (same_any _ _ (d.drop n) (d.drop n) wj ?_ ?_).mono ?_
      rotate_left 2
      rintro e wk ⟨rfl, rfl⟩
      go_wp2_with fail
      refine ⟨Aft.refl _, ?_⟩
      repeat (first | (refine lf_skip (by go_big_quiet_skip; exact wpQuiet_nil trivial) (by kernel_rfl) ?_; simp only [Act.put, List.setIfInBounds_toArray, List.set_cons_succ, List.set_cons_zero]) | (refine lf_quiet rfl (by go_big_quiet_want; exact quiet_false (by assumption)) (by kernel_rfl) rfl ?_; intro Kx hKx; go_big_quiet_op; go_big_quiet_on))
      refine lf_done ?_
      intro wl hl
      go_wp2_with fail
      go_ret
      · exact ⟨rfl, Aft.trans HBh.out (Aft.trans HBi.out (Aft.trans hj hl))⟩
      · exact HRd2.out.grow (Aft.trans HB8.out (Aft.trans Hw8h.out (Aft.trans HBi.out hj)))
      · exact HRX.out.grow (Aft.trans HBi.out hj)
end Go.Proofs.YtifehfcgmodmaaaDoor
