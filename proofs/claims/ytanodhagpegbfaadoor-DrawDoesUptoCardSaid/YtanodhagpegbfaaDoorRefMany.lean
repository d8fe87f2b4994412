/- coterieref09.Many. -/
import Derived.Test.YtanodhagpegbfaaDoorRef09
namespace Go.Proofs.YtanodhagpegbfaaDoor
open Go Go.RowKit
set_option linter.unusedSimpArgs false
theorem wpList_keySliceO {ops : Array Oper} {rest : List Oper} {o : Oper} {a : Act} {w : World} {Q : Exit → Act → World → Prop} (hw : Region.wanted o (yielded ops a.tmps) = true) (x : Operand) (ho : o.op = .buildSlice 47 1 #[(0, x)]) (X : List (BitVec 8)) (hX : X.length = 32) (hx : a.eval x = .agg (bv X).toArray)
    (h : ∀ w', Aft w w' → Hid (w'.heap[w.heap.size]? = some (.cells (bv X).toArray 23)) → wpList Tryd.prog ops Q rest (a.put o.dst (.slice (some ⟨w.heap.size, 0, none⟩) 1 1)) w') : wpList Tryd.prog ops Q (o :: rest) a w := by
  unfold wpList
  rw [if_pos hw]
  exact .inl (wp_noOut (wp_keySlice x ho X hX hx (h _ (Aft.alloc w _) (heap_alloc_new w _))))
theorem wpList_append_key {ops : Array Oper} {rest : List Oper} {o : Oper} {a : Act} {w : World} {Q : Exit → Act → World → Prop} (hw : Region.wanted o (yielded ops a.tmps) = true) (s x : Operand) (ho : o.op = .call { callee := .builtin .append, args := #[s, x], argTypes := #[47, 47] })
    (base : Nat) (v : Value) (ks : List (List (BitVec 8))) (hs : a.eval s = v) (hown : OwnK w base v ks) (g : Nat) (hx : a.eval x = .slice (some ⟨g, 0, none⟩) 1 1) (X : List (BitVec 8)) (hX : X.length = 32) (t : TypeId) (fr : Nat × Nat) (hg : w.heap[g]? = some (.cells (bv X).toArray t fr))
    (hl : ks.length ≤ 1000000) (hbase : base ≤ w.heap.size) (h : ∀ v' w', OwnK w' base v' (ks ++ [X]) → w.grownBy w' v.ownBlock → wpList Tryd.prog ops Q rest (a.put o.dst v') w') : wpList Tryd.prog ops Q (o :: rest) a w := by
  unfold wpList
  rw [if_pos hw]
  exact .inl (wp_noOut (wp_append_key s x ho base v ks hs hown g hx X hX t fr hg hl hbase h))
theorem grow4 {w wa wr w4 w5 : World} {v : Value} {o0 o1 o2 o3 : Obj} (hne : ∀ k, v.ownBlock = some k → wa.heap.size + 1 ≤ k ∧ k < wr.heap.size) (h1 : w.heap.size < wa.heap.size) (h2 : wr.heap.size ≤ w4.heap.size) (h3 : w5.heap.size = w4.heap.size + 1) (k : Nat) (hk : v.ownBlock = some k) :
    w.heap.size ≤ k ∧ ∀ p ∈ [(w.heap.size, o0), (wa.heap.size, o1), (w4.heap.size, o2), (w5.heap.size, o3)], p.1 ≠ k := by
  have := hne k hk
  refine ⟨by omega, fun p hp => ?_⟩
  simp only [List.mem_cons, List.not_mem_nil, or_false] at hp
  rcases hp with rfl | rfl | rfl | rfl
  · show w.heap.size ≠ k
    omega
  · show wa.heap.size ≠ k
    omega
  · show w4.heap.size ≠ k
    omega
  · show w5.heap.size ≠ k
    omega
set_option maxRecDepth 100000 in
set_option maxHeartbeats 4000000 in
theorem refMany_any (seed : List (BitVec 8)) (N : Nat) (n : Int) (w : World) (hK : TabK K0 0 w) (hs : seed.length = 32) (hN : N < 18446744073709551616) :
    Calls Tryd.prog 33 #[.agg (drawsL seed N).toArray, .int .i64 n] w (ManySays seed N n w) := by
  have HK := Lib.hid hK
  have HS := Lib.hid hs
  have HC := Lib.hid (fun (wx : World) => refDrawCheck_any seed N wx hs)
  have HX := Lib.hid (fun (M : Nat) (hM : M < 18446744073709551616) (wx : World) (h : Aft w wx) => refNextD_any seed M wx (TabK_fr HK.out (Fr.of_below (S := fun _ => False) h) (fun h => h)) hs hM)
  unfold NextSays at HX
  have HL := Lib.hid (Led.start w)
  clear hK hs
  go_enter Tryd.func33, Tryd.ntmps33
  go_wp2_with (first | (refine wpList_boxO rfl 39 (.tmp 0) rfl (.agg (drawsL seed N).toArray) rfl (.cells (drawsL seed N).toArray 39) (box_draws _) ?_; intro wa aa gg zz; replace HL := Lib.hid (HL.out.alloc aa gg.out); clear aa gg zz; try simp only [List.nil_append, List.cons_append, List.set_cons_zero, List.set_cons_succ] at HL) | (refine wpList_allocO rfl 39 rfl (.cells (drawsL (List.replicate 32 0) 0).toArray 39) alloc_draws ?_; intro w' aa gg zz; replace HL := Lib.hid (HL.out.alloc aa gg.out); clear aa gg zz; try simp only [List.nil_append, List.cons_append, List.set_cons_zero, List.set_cons_succ] at HL) | (refine wpList_load_rowG (by kernel_rfl) 39 (.tmp 2) rfl _ rfl _ _ _ _ (HL.out.get 0 rfl) Tryd.underlying39 rfl (draws_info HS.out _) ?_))
  refine (HC.out _).mono ?_
  rintro r w2 ⟨rfl, h2⟩
  replace HL := Lib.hid (HL.out.call h2)
  clear h2
  by_cases hA : N ≤ 4294967296
  · rw [show drwChk N = 0 from if_pos hA]
    by_cases hB : n < 0
    · have HQ := Lib.hid (mnE_bad1 (N := N) (n := n) (by omega))
      go_wp2_with (first | (refine wpList_store_drawsZ0 rfl (.tmp 5) (.tmp 22) rfl _ rfl rfl _ (HL.out.get 1 rfl) drawsZ_size ?_; intro w' b1 b2 b3; replace HL := Lib.hid (HL.out.store 1 rfl b1 b2 b3); clear b1 b2 b3; try simp only [List.nil_append, List.cons_append, List.set_cons_zero, List.set_cons_succ] at HL))
      refine bodyPost_ret (results_tmp_cell_tmp rfl _ _ _ 39 _ (0, 0) _ rfl (HL.out.get 1 rfl) Tryd.underlying39 rfl (draws_info List.length_replicate 0)) rfl ?_
      exact ManySays.bad HQ.out (by decide) HL.out.aft
    by_cases hC : 1000 < n
    · have HQ := Lib.hid (mnE_bad1 (N := N) (n := n) (by omega))
      go_wp2_with (first | (refine wpList_store_drawsZ0 rfl (.tmp 5) (.tmp 22) rfl _ rfl rfl _ (HL.out.get 1 rfl) drawsZ_size ?_; intro w' b1 b2 b3; replace HL := Lib.hid (HL.out.store 1 rfl b1 b2 b3); clear b1 b2 b3; try simp only [List.nil_append, List.cons_append, List.set_cons_zero, List.set_cons_succ] at HL))
      refine bodyPost_ret (results_tmp_cell_tmp rfl _ _ _ 39 _ (0, 0) _ rfl (HL.out.get 1 rfl) Tryd.underlying39 rfl (draws_info List.length_replicate 0)) rfl ?_
      exact ManySays.bad HQ.out (by decide) HL.out.aft
    obtain ⟨m, rfl⟩ : ∃ m : Nat, n = (m : Int) := ⟨n.toNat, by omega⟩
    have HM := Lib.hid (show m ≤ 1000 by omega)
    have HA := Lib.hid hA
    go_wp2_with fail
    clear hA hB hC hN
    have HS1 := Lib.hid (show w.heap.size < wa.heap.size from HL.out.inc 0 1 _ _ _ _ (by decide) rfl rfl)
    go_loopw [7, 24] (fun v7 v24 wr => ∃ j : Nat, j ≤ m ∧ N + j ≤ 4294967296 ∧ v24 = .int .i64 (j : Int) ∧ OwnK wr (wa.heap.size + 1) v7 (manyL seed N j) ∧ Led w wr [(w.heap.size, .cells (drawsL seed (N + j)).toArray 39), (wa.heap.size, .cells (drawsL (List.replicate 32 0) 0).toArray 39)]) (fun _ v _ => m - (intOf v).toNat)
    case atStart => exact ⟨0, by omega, HA.out, by go_num, OwnK.nil _ _, HL.out⟩
    case round =>
      clear HL
      obtain ⟨j, hj, hNj, rfl, hown, hL⟩ := hrel
      have HL := Lib.hid hL
      obtain ⟨ao, cap, rfl, -, -⟩ := hown.rd.shape
      rw [manyL_length] at hown ⊢
      have HOw := Lib.hid hown
      have HNE := Lib.hid hown.lt
      have hm1 : (m : Int) ≤ 1000 := by have := HM.out; omega
      clear hL hown
      by_cases hlt : j < m
      · have hlt' : (j : Int) < (m : Int) := by omega
        go_wp2_with (first | (refine wpList_load_rowG (by kernel_rfl) 39 (.tmp 2) rfl _ rfl _ _ _ _ (HL.out.get 0 rfl) Tryd.underlying39 rfl (draws_info HS.out _) ?_))
        refine (HX.out (N + j) (by omega) _ HL.out.aft).mono ?_
        rintro r w4 ⟨rfl, h4⟩
        replace HL := Lib.hid (HL.out.call h4)
        have HS4 := Lib.hid (Below.size h4)
        replace HOw := Lib.hid (HOw.out.aft h4)
        have HXl := Lib.hid (nxK_length seed (N + j))
        clear h4
        by_cases h8 : N + j < 4294967296
        · rw [show nxE (N + j) = 0 from if_pos h8, show nxS seed (N + j) = seed from if_pos h8, show nxN (N + j) = N + j + 1 from if_pos h8]
          have HXm := Lib.hid (manyL_succ seed N j)
          generalize nxK seed (N + j) = X at *
          have H8 := Lib.hid h8
          clear h8
          go_wp2_with (first | (refine wpList_allocO rfl 23 rfl (.cells key0 23) alloc_key ?_; intro w5 aa gg zz; have A5 := Lib.hid aa; have Z5 := Lib.hid zz; replace HL := Lib.hid (HL.out.alloc aa gg.out); clear aa gg zz; try simp only [List.nil_append, List.cons_append, List.set_cons_zero, List.set_cons_succ] at HL) | (refine wpList_allocO rfl 39 rfl (.cells (drawsL (List.replicate 32 0) 0).toArray 39) alloc_draws ?_; intro w6 aa gg zz; have A6 := Lib.hid (Aft.trans A5.out aa); replace HL := Lib.hid (HL.out.alloc aa gg.out); clear aa gg zz; try simp only [List.nil_append, List.cons_append, List.set_cons_zero, List.set_cons_succ] at HL) | (refine wpList_store_keyZ rfl (.tmp 8) (.tmp 29) rfl w4.heap.size X HXl.out rfl rfl _ (HL.out.get 2 rfl) key0_size ?_; intro w6b b1 b2 b3; have A6b := Lib.hid (b3 w4.heap.size w4 (Nat.le_refl _) A6.out); replace HL := Lib.hid (HL.out.store 2 rfl b1 b2 b3); clear b1 b2 b3; try simp only [List.nil_append, List.cons_append, List.set_cons_zero, List.set_cons_succ] at HL) | (refine wpList_store_drawsZ rfl (.tmp 9) (.tmp 30) rfl w5.heap.size seed (N + j + 1) HS.out rfl rfl _ (HL.out.get 3 rfl) drawsZ_size ?_; intro w7 b1 b2 b3; have A7 := Lib.hid (b3 w4.heap.size w4 (by have := Z5.out; omega) A6b.out); replace HL := Lib.hid (HL.out.store 3 rfl b1 b2 b3); clear b1 b2 b3; try simp only [List.nil_append, List.cons_append, List.set_cons_zero, List.set_cons_succ] at HL) | (refine wpList_load_rowG (by kernel_rfl) 23 (.tmp 8) rfl _ rfl _ _ _ _ (HL.out.get 2 rfl) Tryd.underlying23 rfl (key_info HXl.out) ?_) | (refine wpList_keySliceO (by kernel_rfl) (.tmp 37) rfl X HXl.out rfl ?_; intro we ae ge; have HOe := Lib.hid (HOw.out.aft (Aft.trans A7.out ae)); have AE := Lib.hid ae; have HB := Lib.hid ge.out; replace HL := Lib.hid (HL.out.call ae); clear ae ge) | (refine wpList_append_key (by kernel_rfl) (.tmp 36) (.tmp 38) rfl (wa.heap.size + 1) _ (manyL seed N j) rfl HOe.out _ rfl X HXl.out _ _ HB.out (by rw [manyL_length]; have := HM.out; omega) (heap_lt (HL.out.get 1 rfl)) ?_; intro v' w8 k1 k2; have HK1 := Lib.hid k1; replace HL := Lib.hid (HL.out.grown k2 (fun k hk => grow4 HNE.out HS1.out HS4.out Z5.out k hk)); clear k1 k2) | (refine wpList_load_rowG (by kernel_rfl) 39 (.tmp 9) rfl _ rfl _ _ _ _ (HL.out.get 3 rfl) Tryd.underlying39 rfl (draws_info HS.out _) ?_) | (refine wpList_store_drawsZ rfl (.tmp 2) (.tmp 40) rfl w.heap.size seed (N + j + 1) HS.out rfl rfl _ (HL.out.get 0 rfl) (draws_old HS.out) ?_; intro w9 b1 b2 b3; have HK9 := Lib.hid (HK1.out.keep (fun g hg => b2.out g (by have := (HK1.out.lt g hg).1; have := HS1.out; omega))); replace HL := Lib.hid (HL.out.store 0 rfl b1 b2 b3); clear b1 b2 b3))
          go_roundw
          case rel => exact ⟨j + 1, by omega, by have := H8.out; omega, by go_num, by rw [HXm.out]; exact HK9.out, HL.out.duo⟩
          case measure => simp [intOf]; omega
        · have h8' : N + j = 4294967296 := by omega
          have HQ := Lib.hid (mnE_bad8 (N := N) (m := m) HM.out HA.out (by omega))
          rw [show nxE (N + j) = 8 by unfold nxE; rw [if_neg (by omega), if_pos h8']]
          have HSl := Lib.hid (nxS_length HS.out (N + j))
          generalize nxK seed (N + j) = X at *
          generalize nxS seed (N + j) = S at *
          generalize nxN (N + j) = M at *
          go_wp2_with (first | (refine wpList_allocO rfl 23 rfl (.cells key0 23) alloc_key ?_; intro w' aa gg zz; replace HL := Lib.hid (HL.out.alloc aa gg.out); clear aa gg zz; try simp only [List.nil_append, List.cons_append, List.set_cons_zero, List.set_cons_succ] at HL) | (refine wpList_allocO rfl 39 rfl (.cells (drawsL (List.replicate 32 0) 0).toArray 39) alloc_draws ?_; intro w' aa gg zz; replace HL := Lib.hid (HL.out.alloc aa gg.out); clear aa gg zz; try simp only [List.nil_append, List.cons_append, List.set_cons_zero, List.set_cons_succ] at HL) | (refine wpList_store_keyZ rfl (.tmp 8) (.tmp 29) rfl _ X HXl.out rfl rfl _ (HL.out.get 2 rfl) key0_size ?_; intro w' b1 b2 b3; replace HL := Lib.hid (HL.out.store 2 rfl b1 b2 b3); clear b1 b2 b3; try simp only [List.nil_append, List.cons_append, List.set_cons_zero, List.set_cons_succ] at HL) | (refine wpList_store_drawsZ rfl (.tmp 9) (.tmp 30) rfl _ S M HSl.out rfl rfl _ (HL.out.get 3 rfl) drawsZ_size ?_; intro w' b1 b2 b3; replace HL := Lib.hid (HL.out.store 3 rfl b1 b2 b3); clear b1 b2 b3; try simp only [List.nil_append, List.cons_append, List.set_cons_zero, List.set_cons_succ] at HL) | (refine wpList_store_drawsZ0 rfl (.tmp 5) (.tmp 34) rfl _ rfl rfl _ (HL.out.get 1 rfl) drawsZ_size ?_; intro w' b1 b2 b3; replace HL := Lib.hid (HL.out.store 1 rfl b1 b2 b3); clear b1 b2 b3; try simp only [List.nil_append, List.cons_append, List.set_cons_zero, List.set_cons_succ] at HL))
          refine bodyPost_ret (results_tmp_cell_tmp rfl _ _ _ 39 _ (0, 0) _ rfl (HL.out.get 1 rfl) Tryd.underlying39 rfl (draws_info List.length_replicate 0)) rfl ?_
          exact ManySays.bad HQ.out (by decide) HL.out.aft
      · obtain rfl : j = m := by omega
        have hlt' : ¬ (j : Int) < (j : Int) := by omega
        have HNj := Lib.hid hNj
        go_wp2_with fail
        refine wp_region_lexF (fun i => ([0, 0, 0] : List Nat).getD i 0) 3 (by kernel_rfl) (by kernel_rfl) ?_; intro wq hwr
        have HAq := Lib.hid (show Aft wr wq by rw [hwr]; exact (Below.refl _ _).drew)
        replace HL := Lib.hid (HL.out.call HAq.out)
        replace HOw := Lib.hid (HOw.out.aft HAq.out)
        clear hwr HAq
        repeat (first | (refine lf_skip (by go_big_quiet_skip; exact wpQuiet_nil trivial) (by kernel_rfl) ?_; simp only [Act.put, List.setIfInBounds_toArray, List.set_cons_succ, List.set_cons_zero]) | (refine lf_quiet rfl (by go_big_quiet_want; exact quiet_false (by assumption)) (by kernel_rfl) rfl ?_; intro Kx hKx; go_big_quiet_op; go_big_quiet_on))
        refine lf_load_row rfl (by kernel_rfl) 39 (.tmp 2) rfl _ rfl _ _ _ _ (HL.out.get 0 rfl) Tryd.underlying39 rfl (draws_info HS.out _) ?_
        simp only [Act.put, List.setIfInBounds_toArray, List.set_cons_succ, List.set_cons_zero]
        repeat (first | (refine lf_skip (by go_big_quiet_skip; exact wpQuiet_nil trivial) (by kernel_rfl) ?_; simp only [Act.put, List.setIfInBounds_toArray, List.set_cons_succ, List.set_cons_zero]) | (refine lf_quiet rfl (by go_big_quiet_want; exact quiet_false (by assumption)) (by kernel_rfl) rfl ?_; intro Kx hKx; go_big_quiet_op; go_big_quiet_on))
        refine lf_done ?_
        intro wt ht
        replace HL := Lib.hid (HL.out.call ht)
        replace HOw := Lib.hid (HOw.out.aft ht)
        clear ht
        go_wp2_with (first | (refine wpList_store_drawsZ rfl (.tmp 5) (.tmp 43) rfl wa.heap.size seed (N + j) HS.out rfl rfl _ (HL.out.get 1 rfl) drawsZ_size ?_; intro w9 b1 b2 b3; replace HOw := Lib.hid (HOw.out.keep (fun g hg => b2.out g (by have := (HOw.out.lt g hg).1; omega))); replace HL := Lib.hid (HL.out.store 1 rfl b1 b2 b3); clear b1 b2 b3))
        refine bodyPost_ret (results_tmp_cell_tmp rfl _ _ _ 39 _ (0, 0) _ rfl (HL.out.get 1 rfl) Tryd.underlying39 rfl (draws_info HS.out _)) rfl ?_
        exact ManySays.good HM.out HNj.out HOw.out (by have := HS1.out; omega) HL.out.aft
  · rw [show drwChk N = 1 from if_neg hA]
    have HQ := Lib.hid (mnE_bad1 (N := N) (n := n) (by omega))
    go_wp2_with (first | (refine wpList_store_drawsZ0 rfl (.tmp 5) (.tmp 22) rfl _ rfl rfl _ (HL.out.get 1 rfl) drawsZ_size ?_; intro w' b1 b2 b3; replace HL := Lib.hid (HL.out.store 1 rfl b1 b2 b3); clear b1 b2 b3; try simp only [List.nil_append, List.cons_append, List.set_cons_zero, List.set_cons_succ] at HL))
    refine bodyPost_ret (results_tmp_cell_tmp rfl _ _ _ 39 _ (0, 0) _ rfl (HL.out.get 1 rfl) Tryd.underlying39 rfl (draws_info List.length_replicate 0)) rfl ?_
    exact ManySays.bad HQ.out (by decide) HL.out.aft
end Go.Proofs.YtanodhagpegbfaaDoor
