/- coterieref09.Fork. -/
import Derived.Test.YtanodhagpegbfaaDoorRef09
import Derived.Test.YtanodhagpegbfaaDoorLexG
namespace Go.Proofs.YtanodhagpegbfaaDoor
open Go Go.RowKit
set_option linter.unusedSimpArgs false
/-- What a string's conversion hands back. -/
def cvR (s : ByteArray) (w : World) (v : Value) : Prop := ∃ ao cap, v = .slice ao s.size cap ∧ Rd w v (bv (sb s))
theorem mkR_conv {w0 : World} {o : Oper} {a : Act} (x : Operand) (ho : o.op = .convert 9 24 x) (s : ByteArray) (hs : s.size ≤ maxLen) (hx : a.eval x = .string s) : mkR Tryd.prog w0 (cvR s) o a := by
  refine ⟨fun w w' v ha ⟨ao, cap, hv, hr⟩ => ⟨ao, cap, hv, hr.grow ha⟩, fun w1 _ => ⟨_, _, ?_, Lib.bytesWorld_below w1 5 s, _, _, rfl, rd_conv w1 s hs⟩⟩
  have hcs := Lib.run_convert_string_bytes (P := Tryd.prog) w1 9 24 5 s (u := .string) Tryd.underlying9 Tryd.underlying24 Tryd.underlying5
  unfold execOp
  simp only [ho, hx, Sem.run_bind, hcs, Result.andThen_ok, Sem.run_pure]
theorem lg_key {ops : Array Oper} {w0 : World} {Kd : Nat → Nat} {sp : Nat} {R : World → Value → Prop} {Q : Exit → Act → World → Prop} {n k : Nat} {o : Oper} {l : List Oper} {a : Act} {w : World} (hk : Kd k = 0) (hw : Region.wanted o (yielded ops a.tmps) = true) (x : Operand) (ho : o.op = .load 23 x)
    (g q : Nat) (hx : a.eval x = .pointer (some ⟨g, q, none⟩)) (X : List (BitVec 8)) (hr : Rd w0 (.slice (some ⟨g, q, none⟩) 32 32) (bv X)) (hX : X.length = 32) (h : wpGx Tryd.prog ops w0 sp R Kd Q n (k + 1) l (a.put o.dst (.agg (bv X).toArray)) w) : wpGx Tryd.prog ops w0 sp R Kd Q (n + 1) k (o :: l) a w := by
  refine lg_val hk hw _ (fun w' hw' => ?_) h
  unfold execOp
  simp only [ho, hx, Instr.loadAt, Instr.sureAddr, Sem.run_bind, Sem.run_pure, Result.andThen_ok, run_loadVar_key w' g q 32 32 X (hr.grow hw') hX]
theorem fk_good {seed : List (BitVec 8)} {N : Nat} {L : List (BitVec 8)} (h : N ≤ 4294967296) : fkS seed N L = drvKey seed forkS [beL 8 N, L] ∧ fkE N L = textErr (drvT forkS [beL 8 N, L]) := ⟨if_pos h, if_pos h⟩
set_option maxRecDepth 100000 in
set_option maxHeartbeats 4000000 in
theorem refFork_any (seed : List (BitVec 8)) (N : Nat) (s : ByteArray) (w : World) (hK : TabK K0 0 w) (hs : seed.length = 32) (hN : N < 18446744073709551616) (hsz : s.size ≤ 1048576) :
    Calls Tryd.prog 34 #[.agg (drawsL seed N).toArray, .string s] w fun e w' => e = .returned (.tuple #[.agg (drawsL (fkS seed N (sb s)) 0).toArray, .int .i64 (fkE N (sb s))]) ∧ Aft w w' := by
  have HK := Lib.hid hK
  have HS := Lib.hid hs
  have HM := Lib.hid (show s.size ≤ maxLen from Nat.le_trans hsz (by decide))
  have HC := Lib.hid (fun (wx : World) => refDrawCheck_any seed N wx hs)
  have HNum := Lib.hid (fun wx : World => refEight wx N hN)
  have HXl := Lib.hid (fkS_length seed N (sb s))
  have HX0 := Lib.hid (fkS_bad (seed := seed) (N := N) (L := sb s))
  have HD := Lib.hid (show N ≤ 4294967296 → ∀ (wx : World) (vc : Value), Aft w wx → RdAll wx vc [beL 8 N, sb s] → Calls Tryd.prog 72 #[.agg (bv seed).toArray, .string ⟨#[102, 111, 114, 107]⟩, vc] wx fun r w' => r = .returned (.tuple #[.agg (bv (fkS seed N (sb s))).toArray, .int .i64 (fkE N (sb s))]) ∧ Aft wx w' from
    fun hq wx vc ha hr => by
      rw [(fk_good (seed := seed) (L := sb s) hq).1, (fk_good (seed := seed) (L := sb s) hq).2]
      exact refDerive_any seed ⟨#[102, 111, 114, 107]⟩ vc [beL 8 N, sb s] wx (TabK_fr HK.out (Fr.of_below (S := fun _ => False) ha) (fun h => h)) hs hr (by decide) (by simp) (fun h => texts_few h (by simp [drvT])))
  have HZ := Lib.hid (show ¬ N ≤ 4294967296 → fkS seed N (sb s) = List.replicate 32 0 ∧ fkE N (sb s) = 1 from fun h => ⟨if_neg h, if_neg h⟩)
  have HL := Lib.hid (Led.start w)
  clear hK hs hsz
  generalize fkS seed N (sb s) = X at *
  generalize fkE N (sb s) = ex at *
  go_enter Tryd.func34, Tryd.ntmps34
  go_wp2_with (first | (refine wpList_boxO rfl 39 (.tmp 0) rfl (.agg (drawsL seed N).toArray) rfl (.cells (drawsL seed N).toArray 39) (box_draws _) ?_; intro wa aa gg zz; replace HL := Lib.hid (HL.out.alloc aa gg.out); clear aa gg zz; try simp only [List.nil_append, List.cons_append, List.set_cons_zero, List.set_cons_succ] at HL) | (refine wpList_allocO rfl 39 rfl (.cells (drawsL (List.replicate 32 0) 0).toArray 39) alloc_draws ?_; intro w' aa gg zz; replace HL := Lib.hid (HL.out.alloc aa gg.out); clear aa gg zz; try simp only [List.nil_append, List.cons_append, List.set_cons_zero, List.set_cons_succ] at HL) | (refine wpList_load_rowG (by kernel_rfl) 39 (.tmp 2) rfl _ rfl _ _ _ _ (HL.out.get 0 rfl) Tryd.underlying39 rfl (draws_info HS.out _) ?_))
  refine (HC.out _).mono ?_
  rintro r w2 ⟨rfl, h2⟩
  replace HL := Lib.hid (HL.out.call h2)
  clear h2
  by_cases hA : N ≤ 4294967296
  · rw [show drwChk N = 0 from if_pos hA]
    replace HD := Lib.hid (HD.out hA)
    clear HZ hN
    go_wp2_with fail
    refine wp_region_lexG 6 (fun _ => cvR s) (fun i => ([0, 0, 0, 0, 2, 0, 1, 1, 2, 0, 0, 0, 1, 3] : List Nat).getD i 0) 14 (by kernel_rfl) (by kernel_rfl) ?_
    intro wr hwr
    replace HL := Lib.hid (HL.out.call (show Aft w2 wr by rw [hwr]; exact (Below.refl _ _).drew))
    clear hwr hA
    have HLr := HL
    have hn := fun u : Later wr.heap.size wr => draws_n (Aft.get u.h (HL.out.get 0 rfl)) HS.out
    repeat (first | (refine lg_skip (by go_big_quiet_skip; exact wpQuiet_nil trivial) (by kernel_rfl) ?_; simp only [Act.put, List.setIfInBounds_toArray, List.set_cons_succ, List.set_cons_zero]) | (refine lg_quiet rfl (by go_big_quiet_want; exact quiet_false (by assumption)) (by kernel_rfl) rfl ?_; intro Kx hKx; go_big_quiet_op; go_big_quiet_on))
    refine lg_key rfl (by kernel_rfl) (.tmp 13) rfl _ 0 rfl seed (draws_seed (HL.out.get 0 rfl) HS.out) HS.out ?_
    simp only [Act.put, List.setIfInBounds_toArray, List.set_cons_succ, List.set_cons_zero]
    repeat (first | (refine lg_skip (by go_big_quiet_skip; exact wpQuiet_nil trivial) (by kernel_rfl) ?_; simp only [Act.put, List.setIfInBounds_toArray, List.set_cons_succ, List.set_cons_zero]) | (refine lg_quiet rfl (by go_big_quiet_want; exact quiet_false (by assumption)) (by kernel_rfl) rfl ?_; intro Kx hKx; go_big_quiet_op; go_big_quiet_on))
    refine lg_eff rfl (by go_big_quiet_want; exact quiet_false (by assumption)) (by kernel_rfl) ?_
    intro wn hb Kx hKx
    replace HL := Lib.hid (HL.out.call hb)
    go_wp2_with fail
    refine (HNum.out _).mono ?_
    rintro e w3 ⟨a3, c3, rfl, hr3, hb3⟩
    go_wp2_with fail
    refine ⟨hb3, ?_⟩
    have HR3 := Lib.hid hr3
    have HRn := Lib.hid (Aft.trans hb hb3)
    replace HL := Lib.hid (HL.out.call hb3)
    clear hr3 hb3 hb
    repeat (first | (refine lg_skip (by go_big_quiet_skip; exact wpQuiet_nil trivial) (by kernel_rfl) ?_; simp only [Act.put, List.setIfInBounds_toArray, List.set_cons_succ, List.set_cons_zero]) | (refine lg_quiet rfl (by go_big_quiet_want; exact quiet_false (by assumption)) (by kernel_rfl) rfl ?_; intro Kx hKx; go_big_quiet_op; go_big_quiet_on))
    refine lg_spec rfl rfl (by kernel_rfl) (mkR_conv (.tmp 18) rfl s HM.out rfl) ?_
    rintro w4 vv hb4 ⟨a4, c4, rfl, hr4⟩
    simp only [Act.put, List.setIfInBounds_toArray, List.set_cons_succ, List.set_cons_zero]
    have HR4 := Lib.hid hr4
    have HA4 := Lib.hid hb4
    replace HL := Lib.hid (HL.out.call hb4)
    clear hr4 hb4
    refine lg_fresh (.cells #[.slice a3 8 c3, .slice a4 s.size c4] 24) (fun g => .slice (some ⟨g, 0, none⟩) 2 2) rfl rfl (by kernel_rfl) (fun w1 => by kernel_rfl) ?_
    intro wf gf ha1 ha2 ha3
    simp only [Act.put, List.setIfInBounds_toArray, List.set_cons_succ, List.set_cons_zero]
    replace HL := Lib.hid (HL.out.call ha1)
    have HAf := Lib.hid ha1
    have HB := Lib.hid ha3
    clear ha1 ha2 ha3
    refine lg_eff rfl (by go_big_quiet_want; exact quiet_false (by assumption)) (by kernel_rfl) ?_
    intro wg hc Kx hKx
    replace HL := Lib.hid (HL.out.call hc)
    go_wp2_with fail
    refine (HD.out wg _ HL.out.aft (RdAll.two (Aft.get hc HB.out) (HR3.out.grow (Aft.trans HA4.out (Aft.trans HAf.out hc))) (HR4.out.grow (Aft.trans HAf.out hc)))).mono ?_
    rintro r wd ⟨rfl, hd⟩
    go_wp2_with fail
    refine ⟨hd, ?_⟩
    have HRd := Lib.hid (Aft.trans HRn.out (Aft.trans HA4.out (Aft.trans HAf.out (Aft.trans hc hd))))
    clear hd hc
    repeat (first | (refine lg_skip (by go_big_quiet_skip; exact wpQuiet_nil trivial) (by kernel_rfl) ?_; simp only [Act.put, List.setIfInBounds_toArray, List.set_cons_succ, List.set_cons_zero]) | (refine lg_quiet rfl (by go_big_quiet_want; exact quiet_false (by assumption)) (by kernel_rfl) rfl ?_; intro Kx hKx; go_big_quiet_op; go_big_quiet_on))
    refine lg_fresh (.cells key0 23) (fun g => .pointer (some ⟨g, 0, none⟩)) rfl rfl (by kernel_rfl) (fun w1 => by kernel_rfl) ?_
    intro wk gk hk1 hk2 hk3
    simp only [Act.put, List.setIfInBounds_toArray, List.set_cons_succ, List.set_cons_zero]
    refine lg_store rfl (by kernel_rfl) 23 (.tmp 6) (.tmp 22) rfl gk (bv X).toArray rfl rfl _ key0 (Aft.trans HRd.out hk1) hk2 hk3 (key_info HXl.out) (by rw [key_sz HXl.out]; rfl) (all_one (bv_one X)) ?_
    intro wz z1 z2 z3
    simp only [Act.put]
    replace HL := Lib.hid (HLr.out.fresh z2 hk2 z1.out)
    clear HLr hk1 hk2 hk3 z1 z2 z3 hn
    try simp only [List.nil_append, List.cons_append, List.set_cons_zero, List.set_cons_succ] at HL
    refine lg_done ?_
    intro wt ht
    replace HL := Lib.hid (HL.out.call ht)
    clear ht
    by_cases he : ex = 0
    · subst he
      go_wp2_with (first | (refine wpList_load_rowG (by kernel_rfl) 23 (.tmp 6) rfl _ rfl _ _ _ _ (HL.out.get 2 rfl) Tryd.underlying23 rfl (key_info HXl.out) ?_) | (refine wpList_buildO (by kernel_rfl) 39 #[(0, .tmp 28)] rfl #[(0, .agg (bv X).toArray)] (by kernel_rfl) _ (build_draws1 HXl.out) ?_) | (refine wpList_store_drawsZ rfl (.tmp 4) (.tmp 29) rfl _ X 0 HXl.out rfl rfl _ (HL.out.get 1 rfl) drawsZ_size ?_; intro w' b1 b2 b3; replace HL := Lib.hid (HL.out.store 1 rfl b1 b2 b3); clear b1 b2 b3; try simp only [List.nil_append, List.cons_append, List.set_cons_zero, List.set_cons_succ] at HL))
      refine bodyPost_ret (results_cell_tmp rfl _ _ _ 39 _ (0, 0) _ rfl (HL.out.get 1 rfl) Tryd.underlying39 rfl (draws_info HXl.out 0)) rfl ?_
      exact ⟨rfl, HL.out.aft⟩
    · have HXz := Lib.hid (HX0.out he)
      go_wp2_with (first | (refine wpList_store_drawsZ0 rfl (.tmp 4) (.tmp 26) rfl _ rfl rfl _ (HL.out.get 1 rfl) drawsZ_size ?_; intro w' b1 b2 b3; replace HL := Lib.hid (HL.out.store 1 rfl b1 b2 b3); clear b1 b2 b3; try simp only [List.nil_append, List.cons_append, List.set_cons_zero, List.set_cons_succ] at HL))
      refine bodyPost_ret (results_cell_tmp rfl _ _ _ 39 _ (0, 0) _ rfl (HL.out.get 1 rfl) Tryd.underlying39 rfl (draws_info List.length_replicate 0)) rfl ?_
      exact ⟨by rw [HXz.out]; rfl, HL.out.aft⟩
  · rw [show drwChk N = 1 from if_neg hA]
    obtain ⟨q1, q2⟩ := HZ.out hA
    have HQ1 := Lib.hid q1
    have HQ2 := Lib.hid q2
    clear q1 q2
    go_wp2_with (first | (refine wpList_store_drawsZ0 rfl (.tmp 4) (.tmp 11) rfl _ rfl rfl _ (HL.out.get 1 rfl) drawsZ_size ?_; intro w' b1 b2 b3; replace HL := Lib.hid (HL.out.store 1 rfl b1 b2 b3); clear b1 b2 b3; try simp only [List.nil_append, List.cons_append, List.set_cons_zero, List.set_cons_succ] at HL))
    refine bodyPost_ret (results_cell_tmp rfl _ _ _ 39 _ (0, 0) _ rfl (HL.out.get 1 rfl) Tryd.underlying39 rfl (draws_info List.length_replicate 0)) rfl ?_
    exact ⟨by rw [HQ1.out, HQ2.out]; rfl, HL.out.aft⟩
end Go.Proofs.YtanodhagpegbfaaDoor
