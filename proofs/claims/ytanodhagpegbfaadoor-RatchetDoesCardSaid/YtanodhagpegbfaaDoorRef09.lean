/- coterieref09.Check, New and Next. -/
import Derived.Test.YtanodhagpegbfaaDoorKeysSame
import Derived.Test.YtanodhagpegbfaaDoorRefEnter
namespace Go.Proofs.YtanodhagpegbfaaDoor
open Go Go.RowKit
set_option linter.unusedSimpArgs false
set_option maxRecDepth 100000 in
theorem refDrawCheck_any (seed : List (BitVec 8)) (N : Nat) (w : World) (hs : seed.length = 32) :
    Calls Tryd.prog 35 #[.agg (drawsL seed N).toArray] w fun e w' => e = .returned (.int .i64 (drwChk N)) ∧ Aft w w' := by
  have hbx := box_draws (drawsL seed N)
  have hc := draws_n (heap_alloc_new w (.cells (drawsL seed N).toArray 39)) hs
  go_enter Tryd.func35, Tryd.ntmps35
  by_cases h : N ≤ 4294967296
  · have h1 : ¬ (4294967296 : Int) < (N : Int) := by omega
    have HQ := Lib.hid (show drwChk N = 0 from if_pos h)
    clear h
    go_wp2_with fail
    go_ret
    exact ⟨by rw [HQ.out]; rfl, Aft.alloc _ _⟩
  · have h1 : (4294967296 : Int) < (N : Int) := by omega
    have HQ := Lib.hid (show drwChk N = 1 from if_neg h)
    clear h
    go_wp2_with fail
    go_ret
    exact ⟨by rw [HQ.out]; rfl, Aft.alloc _ _⟩
set_option maxRecDepth 100000 in
set_option maxHeartbeats 1000000 in
theorem refNew9_any (vb : Value) (b : List (List (BitVec 8))) (w : World) (hK : TabK K0 0 w) (hb : RdAll w vb b) (hl : b.length ≤ 1048576) :
    Calls Tryd.prog 31 #[vb] w fun e w' => e = .returned (.tuple #[.agg (drawsL (newS b) 0).toArray, .int .i64 (textErr b)]) ∧ Aft w w' := by
  have HK := Lib.hid hK
  have HB := Lib.hid hb
  have HBl := Lib.hid hl
  obtain ⟨ab, cb, rfl, -⟩ := hb.shape
  have HT := Lib.hid (fun (wx : World) (h : Aft w wx) => refText_any (.slice none 0 0) _ [] b wx (Rd.nil _) (HB.out.below h) (by simp) (by have := HBl.out; omega))
  have HL := Lib.hid (Led.start w)
  clear hK hb hl
  go_enter Tryd.func31, Tryd.ntmps31
  go_wp2_with (first | (refine wpList_allocO rfl 39 rfl (.cells (drawsL (List.replicate 32 0) 0).toArray 39) alloc_draws ?_; intro w' aa gg zz; replace HL := Lib.hid (HL.out.alloc aa gg.out); clear aa gg zz; try simp only [List.nil_append, List.cons_append, List.set_cons_zero, List.set_cons_succ] at HL))
  refine (HT.out _ HL.out.aft).mono ?_
  rintro e w2 ⟨a2, c2, rfl, ho2, hb2⟩
  have HR2 := Lib.hid (Rd.of_own ho2)
  replace HL := Lib.hid (HL.out.call hb2)
  clear ho2 hb2
  rcases txErr_cases b with ⟨he, hk⟩ | ⟨he, hk⟩
  · have HQ := Lib.hid (show newS b = List.replicate 32 0 by unfold newS; rw [hk]; rfl)
    have HE := Lib.hid he
    rw [he]
    clear he hk
    go_wp2_with (first | (refine wpList_store_drawsZ0 rfl (.tmp 2) (.tmp 13) rfl _ rfl rfl _ (HL.out.get 0 rfl) drawsZ_size ?_; intro w' b1 b2 b3; replace HL := Lib.hid (HL.out.store 0 rfl b1 b2 b3); clear b1 b2 b3; try simp only [List.nil_append, List.cons_append, List.set_cons_zero, List.set_cons_succ] at HL))
    refine bodyPost_ret (results_cell_tmp rfl _ _ _ 39 _ (0, 0) _ rfl (HL.out.get 0 rfl) Tryd.underlying39 rfl (draws_info List.length_replicate 0)) rfl ?_
    exact ⟨by rw [HQ.out, HE.out]; rfl, HL.out.aft⟩
  · have hY : textB [] b = textsB b := by unfold textB; rw [if_pos hk]; rfl
    have HQ := Lib.hid (show newS b = digest K0 (textsB b) by unfold newS; rw [if_pos hk])
    have HE := Lib.hid he
    have hbd := textsB_le b b.length (Nat.le_refl _) (fun j hj => by
      have h9 := List.all_eq_true.1 hk (b[j]) (List.getElem_mem hj)
      unfold txt
      rw [List.getD_eq_getElem?_getD, List.getElem?_eq_getElem hj, Option.getD_some]
      exact of_decide_eq_true h9)
    rw [List.take_length] at hbd
    rw [hY] at HR2 ⊢
    rw [he]
    have HS := Lib.hid (fun (wx : World) (v : Value) (h : Aft w wx) (hr : RdAll wx v [textsB b]) => refSum_any v [textsB b] wx (TabK_fr HK.out (Fr.of_below (S := fun _ => False) h) (fun h => h)) hr (by have := HBl.out; simp; omega))
    have hf : ([textsB b] : List (List (BitVec 8))).flatten = textsB b := by simp
    rw [hf, ← HQ.out] at HS
    have HXL := Lib.hid (newS_length b)
    clear he hk hY hf hbd
    generalize hX : newS b = X at HS HXL
    have HX := Lib.hid hX
    clear hX
    generalize textsB b = T at *
    go_wp2_with fail
    refine (HS.out _ _ (Aft.trans HL.out.aft (Aft.alloc _ _)) (RdAll.one _ _ _ _ HR2.out)).mono ?_
    rintro e w3 ⟨rfl, hb3⟩
    replace HL := Lib.hid (HL.out.call (Aft.trans (Aft.alloc w2 _) hb3))
    clear hb3
    go_wp2_with (first | (refine wpList_buildO (by kernel_rfl) 39 #[(0, .tmp 17)] rfl #[(0, .agg (bv X).toArray)] (by kernel_rfl) _ (build_draws1 HXL.out) ?_) | (refine wpList_store_drawsZ rfl (.tmp 2) (.tmp 18) rfl _ X 0 HXL.out rfl rfl _ (HL.out.get 0 rfl) drawsZ_size ?_; intro w' b1 b2 b3; replace HL := Lib.hid (HL.out.store 0 rfl b1 b2 b3); clear b1 b2 b3; try simp only [List.nil_append, List.cons_append, List.set_cons_zero, List.set_cons_succ] at HL))
    refine bodyPost_ret (results_cell_tmp rfl _ _ _ 39 _ (0, 0) _ rfl (HL.out.get 0 rfl) Tryd.underlying39 rfl (draws_info HXL.out 0)) rfl ?_
    exact ⟨by rw [HX.out, HE.out]; rfl, HL.out.aft⟩
section
variable {P : Program} {ops : Array Oper} {C : World → Prop} {E : Nat → Bool} {Q : Exit → Act → World → Prop} {n k : Nat} {o : Oper} {l : List Oper} {a : Act} {w : World}
/-- A value that hangs on what the class C keeps. -/
theorem lx_val (hE : E k = false) (hw : Region.wanted o (yielded ops a.tmps) = true) (v : Value) (hv : ∀ w', C w' → (execOp a.eval o).run P w' = .ok (.value v) w') (h : wpLx P ops C E Q n (k + 1) l (a.put o.dst v) w) : wpLx P ops C E Q (n + 1) k (o :: l) a w := by
  simp only [wpLx, stepL, hw, if_true, hE]
  exact ⟨v, fun w' hw' => .inl (hv w' hw'), h⟩
end
theorem lx_key {ops : Array Oper} {C : World → Prop} {E : Nat → Bool} {Q : Exit → Act → World → Prop} {n k : Nat} {o : Oper} {l : List Oper} {a : Act} {w : World} (hE : E k = false) (hw : Region.wanted o (yielded ops a.tmps) = true) (x : Operand) (ho : o.op = .load 23 x)
    (g q : Nat) (hx : a.eval x = .pointer (some ⟨g, q, none⟩)) (X : List (BitVec 8)) (hX : X.length = 32) (hr : ∀ w', C w' → Rd w' (.slice (some ⟨g, q, none⟩) 32 32) (bv X)) (h : wpLx Tryd.prog ops C E Q n (k + 1) l (a.put o.dst (.agg (bv X).toArray)) w) : wpLx Tryd.prog ops C E Q (n + 1) k (o :: l) a w := by
  refine lx_val hE hw _ (fun w' hw' => ?_) h
  unfold execOp
  simp only [ho, hx, Instr.loadAt, Instr.sureAddr, Sem.run_bind, Sem.run_pure, Result.andThen_ok, run_loadVar_key w' g q 32 32 X (hr w' hw') hX]
theorem lx_draws2 {ops : Array Oper} {C : World → Prop} {E : Nat → Bool} {Q : Exit → Act → World → Prop} {n k : Nat} {o : Oper} {l : List Oper} {a : Act} {w : World} (hE : E k = false) (hw : Region.wanted o (yielded ops a.tmps) = true) (x y : Operand) (ho : o.op = .build 39 #[(0, x), (1, y)])
    (X : List (BitVec 8)) (hX : X.length = 32) (N : Nat) (hx : a.eval x = .agg (bv X).toArray) (hy : a.eval y = .int .u64 (N : Int)) (h : wpLx Tryd.prog ops C E Q n (k + 1) l (a.put o.dst (.agg (drawsL X N).toArray)) w) : wpLx Tryd.prog ops C E Q (n + 1) k (o :: l) a w := by
  refine lx_val hE hw _ (fun w' hw' => ?_) h
  unfold execOp
  simp only [ho, Sem.run_bind, List.map_toArray, List.map_cons, List.map_nil, hx, hy, build_draws2 hX N w', Result.andThen_ok, Sem.run_pure]
theorem run_loadVar_u64 (w : World) (g q : Nat) (v : Value) (h : w.cell? ⟨g, q, none⟩ = some v) : (loadVar 37 ⟨g, q, none⟩).run Tryd.prog w = .ok v w := by
  have hagg : (isAgg 37).run Tryd.prog w = .ok false w := by
    unfold isAgg
    rw [Sem.run_bind, run_underlying Tryd.underlying37 w]
    rfl
  unfold loadVar
  rw [Sem.run_bind, hagg]
  simp only [Bool.false_eq_true, if_false, Result.andThen_ok]
  first | (unfold load Sem.run; simp [h]) | (simp [load, Sem.run, h])
theorem lx_u64 {ops : Array Oper} {C : World → Prop} {E : Nat → Bool} {Q : Exit → Act → World → Prop} {n k : Nat} {o : Oper} {l : List Oper} {a : Act} {w : World} (hE : E k = false) (hw : Region.wanted o (yielded ops a.tmps) = true) (x : Operand) (ho : o.op = .load 37 x)
    (g q : Nat) (hx : a.eval x = .pointer (some ⟨g, q, none⟩)) (v : Value) (hr : ∀ w', C w' → w'.cell? ⟨g, q, none⟩ = some v) (h : wpLx Tryd.prog ops C E Q n (k + 1) l (a.put o.dst v) w) : wpLx Tryd.prog ops C E Q (n + 1) k (o :: l) a w := by
  refine lx_val hE hw _ (fun w' hw' => ?_) h
  unfold execOp
  simp only [ho, hx, Instr.loadAt, Instr.sureAddr, Sem.run_bind, Sem.run_pure, Result.andThen_ok, run_loadVar_u64 w' g q v (hr w' hw')]
set_option maxRecDepth 100000 in
set_option maxHeartbeats 4000000 in
theorem refNextD_any (seed : List (BitVec 8)) (N : Nat) (w : World) (hK : TabK K0 0 w) (hs : seed.length = 32) (hN : N < 18446744073709551616) :
    Calls Tryd.prog 32 #[.agg (drawsL seed N).toArray] w (NextSays seed N w) := by
  have HK := Lib.hid hK
  have HS := Lib.hid hs
  have HC := Lib.hid (fun (wx : World) => refDrawCheck_any seed N wx hs)
  have HNum := Lib.hid (fun wx : World => refEight wx N hN)
  have HD := Lib.hid (show ∀ (wx : World) (vc : Value), Aft w wx → RdAll wx vc [beL 8 N] → Calls Tryd.prog 72 #[.agg (bv seed).toArray, .string ⟨#[100, 114, 97, 119]⟩, vc] wx fun r w' => r = .returned (.tuple #[.agg (bv (drvKey seed drawS [beL 8 N])).toArray, .int .i64 0]) ∧ Aft wx w' from
    fun wx vc ha hr => refSub_any seed ⟨#[100, 114, 97, 119]⟩ vc [beL 8 N] wx (TabK_fr HK.out (Fr.of_below (S := fun _ => False) ha) (fun h => h)) hs hr (by decide) (by simp) (draw_ok N))
  have HXl := Lib.hid (drvKey_length seed drawS [beL 8 N])
  have HL := Lib.hid (Led.start w)
  clear hK hs
  go_enter Tryd.func32, Tryd.ntmps32
  go_wp2_with (first | (refine wpList_boxO rfl 39 (.tmp 0) rfl (.agg (drawsL seed N).toArray) rfl (.cells (drawsL seed N).toArray 39) (box_draws _) ?_; intro wa aa gg zz; replace HL := Lib.hid (HL.out.alloc aa gg.out); clear aa gg zz; try simp only [List.nil_append, List.cons_append, List.set_cons_zero, List.set_cons_succ] at HL) | (refine wpList_allocO rfl 23 rfl (.cells key0 23) alloc_key ?_; intro w' aa gg zz; replace HL := Lib.hid (HL.out.alloc aa gg.out); clear aa gg zz; try simp only [List.nil_append, List.cons_append, List.set_cons_zero, List.set_cons_succ] at HL) | (refine wpList_allocO rfl 39 rfl (.cells (drawsL (List.replicate 32 0) 0).toArray 39) alloc_draws ?_; intro w' aa gg zz; replace HL := Lib.hid (HL.out.alloc aa gg.out); clear aa gg zz; try simp only [List.nil_append, List.cons_append, List.set_cons_zero, List.set_cons_succ] at HL) | (refine wpList_load_rowG (by kernel_rfl) 39 (.tmp 1) rfl _ rfl _ _ _ _ (HL.out.get 0 rfl) Tryd.underlying39 rfl (draws_info HS.out _) ?_))
  refine (HC.out _).mono ?_
  rintro r w2 ⟨rfl, h2⟩
  replace HL := Lib.hid (HL.out.call h2)
  clear h2
  have hret := fun (wx : World) (cs1 cs2 : Array Value) => wx
  clear hret
  by_cases hA : N ≤ 4294967296
  · rw [show drwChk N = 0 from if_pos hA]
    have hn := draws_n (HL.out.get 0 rfl) HS.out
    by_cases hB : (N : Int) = 4294967296
    · have HQ := Lib.hid (show N = 4294967296 by omega)
      go_wp2_with (first | (refine wpList_store_keyZ0 rfl (.tmp 2) (.tmp 15) rfl _ rfl rfl _ (HL.out.get 1 rfl) key0_size ?_; intro w' b1 b2 b3; replace HL := Lib.hid (HL.out.store 1 rfl b1 b2 b3); clear b1 b2 b3; try simp only [List.nil_append, List.cons_append, List.set_cons_zero, List.set_cons_succ] at HL) | (refine wpList_store_drawsZ0 rfl (.tmp 3) (.tmp 16) rfl _ rfl rfl _ (HL.out.get 2 rfl) drawsZ_size ?_; intro w' b1 b2 b3; replace HL := Lib.hid (HL.out.store 2 rfl b1 b2 b3); clear b1 b2 b3; try simp only [List.nil_append, List.cons_append, List.set_cons_zero, List.set_cons_succ] at HL))
      refine bodyPost_ret (results_cell2 rfl _ _ _ _ _ _ _ _ _ _ _ _ rfl rfl (HL.out.get 1 rfl) (HL.out.get 2 rfl) Tryd.underlying23 rfl (key_info List.length_replicate) Tryd.underlying39 rfl (draws_info List.length_replicate 0)) rfl ?_
      exact NextSays.full HQ.out HL.out.aft
    · have HQ := Lib.hid (show N < 4294967296 by omega)
      have HX := Lib.hid (show drvKey seed drawS [beL 8 N] = nxK seed N from (if_pos HQ.out).symm)
      generalize drvKey seed drawS [beL 8 N] = X at *
      go_wp2_with fail
      clear hn hA hB hN
      refine wp_region_lexF (fun i => ([0, 0, 0, 0, 2, 1, 2, 0, 0, 0, 1, 3] : List Nat).getD i 0) 12 (by kernel_rfl) (by kernel_rfl) ?_; intro wr hwr
      replace HL := Lib.hid (HL.out.call (show Aft w2 wr by rw [hwr]; exact (Below.refl _ _).drew))
      clear hwr
      have HLr := HL
      have hn := fun u : Later wr.heap.size wr => draws_n (Aft.get u.h (HL.out.get 0 rfl)) HS.out
      repeat (first | (refine lf_skip (by go_big_quiet_skip; exact wpQuiet_nil trivial) (by kernel_rfl) ?_; simp only [Act.put, List.setIfInBounds_toArray, List.set_cons_succ, List.set_cons_zero]) | (refine lf_quiet rfl (by go_big_quiet_want; exact quiet_false (by assumption)) (by kernel_rfl) rfl ?_; intro Kx hKx; go_big_quiet_op; go_big_quiet_on))
      refine lf_load_key rfl (by kernel_rfl) (.tmp 18) rfl _ 0 rfl seed (draws_seed (HL.out.get 0 rfl) HS.out) HS.out ?_
      simp only [Act.put, List.setIfInBounds_toArray, List.set_cons_succ, List.set_cons_zero]
      repeat (first | (refine lf_skip (by go_big_quiet_skip; exact wpQuiet_nil trivial) (by kernel_rfl) ?_; simp only [Act.put, List.setIfInBounds_toArray, List.set_cons_succ, List.set_cons_zero]) | (refine lf_quiet rfl (by go_big_quiet_want; exact quiet_false (by assumption)) (by kernel_rfl) rfl ?_; intro Kx hKx; go_big_quiet_op; go_big_quiet_on))
      refine lf_eff rfl (by go_big_quiet_want; exact quiet_false (by assumption)) (by kernel_rfl) ?_
      intro wn hb Kx hKx
      replace HL := Lib.hid (HL.out.call hb)
      go_wp2_with fail
      refine (HNum.out _).mono ?_
      rintro e w3 ⟨a3, c3, rfl, hr3, hb3⟩
      go_wp2_with fail
      refine ⟨hb3, ?_⟩
      have HR3 := Lib.hid hr3
      have HRn := Lib.hid (Aft.trans hb hb3)
      replace HL := Lib.hid (HL.out.call hb3)
      clear hr3 hb3 hb
      refine lf_fresh (.cells #[.slice a3 8 c3] 24) (fun g => .slice (some ⟨g, 0, none⟩) 1 1) rfl (by kernel_rfl) (fun w1 => by kernel_rfl) ?_
      intro wf gf ha1 ha2 ha3
      simp only [Act.put, List.setIfInBounds_toArray, List.set_cons_succ, List.set_cons_zero]
      replace HL := Lib.hid (HL.out.call ha1)
      have HAf := Lib.hid ha1
      have HB := Lib.hid ha3
      clear ha1 ha2 ha3
      refine lf_eff rfl (by go_big_quiet_want; exact quiet_false (by assumption)) (by kernel_rfl) ?_
      intro wg hc Kx hKx
      replace HL := Lib.hid (HL.out.call hc)
      go_wp2_with fail
      refine (HD.out wg _ HL.out.aft (RdAll.blk (Aft.get hc HB.out) (HR3.out.grow (Aft.trans HAf.out hc)))).mono ?_
      rintro r wd ⟨rfl, hd⟩
      go_wp2_with fail
      refine ⟨hd, ?_⟩
      have HRd := Lib.hid (Aft.trans HRn.out (Aft.trans HAf.out (Aft.trans hc hd)))
      clear hd hc
      repeat (first | (refine lf_skip (by go_big_quiet_skip; exact wpQuiet_nil trivial) (by kernel_rfl) ?_; simp only [Act.put, List.setIfInBounds_toArray, List.set_cons_succ, List.set_cons_zero]) | (refine lf_quiet rfl (by go_big_quiet_want; exact quiet_false (by assumption)) (by kernel_rfl) rfl ?_; intro Kx hKx; go_big_quiet_op; go_big_quiet_on))
      refine lf_fresh (.cells key0 23) (fun g => .pointer (some ⟨g, 0, none⟩)) rfl (by kernel_rfl) (fun w1 => by kernel_rfl) ?_
      intro wk gk hk1 hk2 hk3
      simp only [Act.put, List.setIfInBounds_toArray, List.set_cons_succ, List.set_cons_zero]
      refine lf_store rfl (by kernel_rfl) 23 (.tmp 5) (.tmp 25) rfl gk (bv X).toArray rfl rfl _ key0 (Aft.trans HRd.out hk1) hk2 hk3 (key_info HXl.out) (by rw [key_sz HXl.out]; rfl) (all_one (bv_one X)) ?_
      intro wz z1 z2 z3
      simp only [Act.put]
      replace HL := Lib.hid (HLr.out.fresh z2 hk2 z1.out)
      clear HLr hk1 hk2 hk3 z1 z2 z3 hn
      try simp only [List.nil_append, List.cons_append, List.set_cons_zero, List.set_cons_succ] at HL
      refine lf_done ?_
      intro wt ht
      replace HL := Lib.hid (HL.out.call ht)
      clear ht
      have hN3 : (N : Int) + 1 < 18446744073709551616 := by have := HQ.out; omega
      go_wp2_with fail
      refine wp_region_lex (fun w' => w'.heap[gk]? = some (.cells (bv X).toArray 23 (0, 0)) ∧ w'.heap[w.heap.size]? = some (.cells (drawsL seed N).toArray 39 (0, 0))) (fun i => ([7] : List Nat).contains i) 8 (by kernel_rfl) (by kernel_rfl) ⟨HL.out.get 3 rfl, HL.out.get 0 rfl⟩ ?_
      change wpLx _ _ _ _ _ _ _ _ _ wt.drew
      replace HL := Lib.hid (HL.out.call (show Aft wt wt.drew from (Below.refl _ _).drew))
      generalize wt.drew = wd at *
      refine lx_key rfl (by kernel_rfl) (.tmp 5) rfl gk 0 rfl X HXl.out (fun w' h => Rd.of_key h.1 HXl.out) ?_
      simp only [Act.put, List.setIfInBounds_toArray, List.set_cons_succ, List.set_cons_zero]
      refine lx_quietT rfl (by go_big_quiet_want; exact quiet_false (by assumption)) (by kernel_rfl) rfl ?_
      intro Kx hKx
      go_big_quiet_op
      first | go_big_quiet_on | refine ⟨_, fun _ _ _ => rfl, hKx _ ?_⟩
      refine lx_key rfl (by kernel_rfl) (.tmp 28) rfl w.heap.size 0 rfl seed HS.out (fun w' h => draws_seed h.2 HS.out) ?_
      simp only [Act.put, List.setIfInBounds_toArray, List.set_cons_succ, List.set_cons_zero]
      refine lx_quietT rfl (by go_big_quiet_want; exact quiet_false (by assumption)) (by kernel_rfl) rfl ?_
      intro Kx hKx
      go_big_quiet_op
      first | go_big_quiet_on | refine ⟨_, fun _ _ _ => rfl, hKx _ ?_⟩
      refine lx_u64 rfl (by kernel_rfl) (.tmp 30) rfl w.heap.size 32 rfl (.int .u64 (N : Int)) (fun w' h => draws_n h.2 HS.out) ?_
      simp only [Act.put, List.setIfInBounds_toArray, List.set_cons_succ, List.set_cons_zero]
      refine lx_quietT rfl (by go_big_quiet_want; exact quiet_false (by assumption)) (by kernel_rfl) rfl ?_
      intro Kx hKx
      go_big_quiet_op
      first | go_big_quiet_on | refine ⟨_, fun _ _ _ => rfl, hKx _ ?_⟩
      refine lx_draws2 rfl (by kernel_rfl) (.tmp 29) (.tmp 32) rfl seed HS.out (N + 1) rfl rfl ?_
      simp only [Act.put, List.setIfInBounds_toArray, List.set_cons_succ, List.set_cons_zero]
      refine lx_eff rfl (by kernel_rfl) ?_
      intro Kx hKx
      have hi1 := HL.out.inc 0 1 _ _ _ _ (by decide) rfl rfl
      have hi2 := HL.out.inc 1 3 _ _ _ _ (by decide) rfl rfl
      refine wp_of_list (ops := #[]) (wpList_store_keyZ rfl (.tmp 2) (.tmp 27) rfl _ X HXl.out rfl rfl key0 (HL.out.get 1 rfl) key0_size ?_)
      intro w8 b1 b2 b3
      refine ⟨rfl, hKx _ _ ⟨⟨(b2.out gk (by omega)).trans (HL.out.get 3 rfl), (b2.out w.heap.size (by omega)).trans (HL.out.get 0 rfl)⟩, ?_⟩⟩
      replace HL := Lib.hid (HL.out.store 1 rfl b1 b2 b3)
      clear b1 b2 b3 hKx hi1 hi2
      try simp only [List.nil_append, List.cons_append, List.set_cons_zero, List.set_cons_succ] at HL
      refine lx_done ?_
      simp only [Act.put]
      go_wp2_with (first | (refine wpList_store_drawsZ rfl (.tmp 3) (.tmp 33) rfl _ seed (N+1) HS.out rfl rfl _ (HL.out.get 2 rfl) drawsZ_size ?_; intro w' b1 b2 b3; replace HL := Lib.hid (HL.out.store 2 rfl b1 b2 b3); clear b1 b2 b3; try simp only [List.nil_append, List.cons_append, List.set_cons_zero, List.set_cons_succ] at HL))
      refine bodyPost_ret (results_cell2 rfl _ _ _ _ _ _ _ _ _ _ _ _ rfl rfl (HL.out.get 1 rfl) (HL.out.get 2 rfl) Tryd.underlying23 rfl (key_info HXl.out) Tryd.underlying39 rfl (draws_info HS.out _)) rfl ?_
      exact NextSays.good HQ.out HX.out HL.out.aft
  · rw [show drwChk N = 1 from if_neg hA]
    go_wp2_with (first | (refine wpList_store_keyZ0 rfl (.tmp 2) (.tmp 10) rfl _ rfl rfl _ (HL.out.get 1 rfl) key0_size ?_; intro w' b1 b2 b3; replace HL := Lib.hid (HL.out.store 1 rfl b1 b2 b3); clear b1 b2 b3; try simp only [List.nil_append, List.cons_append, List.set_cons_zero, List.set_cons_succ] at HL) | (refine wpList_store_drawsZ0 rfl (.tmp 3) (.tmp 11) rfl _ rfl rfl _ (HL.out.get 2 rfl) drawsZ_size ?_; intro w' b1 b2 b3; replace HL := Lib.hid (HL.out.store 2 rfl b1 b2 b3); clear b1 b2 b3; try simp only [List.nil_append, List.cons_append, List.set_cons_zero, List.set_cons_succ] at HL))
    refine bodyPost_ret (results_cell2 rfl _ _ _ _ _ _ _ _ _ _ _ _ rfl rfl (HL.out.get 1 rfl) (HL.out.get 2 rfl) Tryd.underlying23 rfl (key_info List.length_replicate) Tryd.underlying39 rfl (draws_info List.length_replicate 0)) rfl ?_
    exact NextSays.bad hA HL.out.aft
end Go.Proofs.YtanodhagpegbfaaDoor
