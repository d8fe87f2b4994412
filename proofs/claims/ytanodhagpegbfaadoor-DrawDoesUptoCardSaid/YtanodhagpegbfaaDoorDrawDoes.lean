/- The law DrawDoes. -/
import Derived.Test.YtanodhagpegbfaaDoorRefMany
import Derived.Test.YtanodhagpegbfaaDoorRefFork
namespace Go.Proofs.YtanodhagpegbfaaDoor
open Go Go.RowKit
set_option linter.unusedSimpArgs false
set_option maxRecDepth 100000 in
set_option maxHeartbeats 16000000 in
theorem drawDoes_any (vb : Value) (b : List (List (BitVec 8))) (seed : List (BitVec 8)) (N : Nat) (n : Int) (s : ByteArray) (w : World) (hK : TabK K0 2 w) (hK2 : TabK K0 0 w) (hb : RdAll w vb b) (hbl : b.length ≤ 1048576) (hs : seed.length = 32) (hN : N < 18446744073709551616) :
    Calls Tryd.prog 8 #[vb, .agg (drawsL seed N).toArray, .int .i64 n, .string s] w fun r w' => r = .returned (.bool true) ∧ Below w.heap.size w w' := by
  have HK := Lib.hid hK
  have HK2 := Lib.hid hK2
  have HS := Lib.hid hs
  have HB := Lib.hid hb
  have HBl := Lib.hid hbl
  have HNn := Lib.hid hN
  have HLv := Lib.hid (fun (wx : World) (h : Aft w wx) => live9_any  wx (TabK_fr HK.out (Fr.of_below (S := fun _ => False) h) (fun h => h)) )
  have HF := Lib.hid (fun (wx : World) (h : Aft w wx) => few_any vb b wx (hb.below h) (by omega))
  have C1 := Lib.hid (fun (wx : World) (h : Aft w wx) => new9_any vb b wx (TabK_fr HK.out (Fr.of_below (S := fun _ => False) h) (fun h => h)) (hb.below h) hbl)
  have C2 := Lib.hid (fun (wx : World) (h : Aft w wx) => refNew9_any vb b wx (TabK_fr HK2.out (Fr.of_below (S := fun _ => False) h) (fun h => h)) (hb.below h) hbl)
  have C3 := Lib.hid (fun (wx : World) (h : Aft w wx) => next_any seed N wx (TabK_fr HK.out (Fr.of_below (S := fun _ => False) h) (fun h => h)) hs hN)
  have C4 := Lib.hid (fun (wx : World) (h : Aft w wx) => refNextD_any seed N wx (TabK_fr HK2.out (Fr.of_below (S := fun _ => False) h) (fun h => h)) hs hN)
  have C5 := Lib.hid (fun (wx : World) (h : Aft w wx) => many_any seed N n wx (TabK_fr HK.out (Fr.of_below (S := fun _ => False) h) (fun h => h)) hs hN)
  have C6 := Lib.hid (fun (wx : World) (h : Aft w wx) => refMany_any seed N n wx (TabK_fr HK2.out (Fr.of_below (S := fun _ => False) h) (fun h => h)) hs hN)
  unfold NextSays at C3 C4
  unfold ManySays at C5 C6
  have C10 := Lib.hid (fun (wx : World) => drawCheck_any seed N wx hs)
  have C11 := Lib.hid (fun (wx : World) => refDrawCheck_any seed N wx hs)
  have L1 := Lib.hid (newS_length b)
  have L2 := Lib.hid (nxK_length seed N)
  have L3 := Lib.hid (nxS_length hs N)
  have L4 := Lib.hid (mnS_length hs N n)
  have L5 := Lib.hid (fkS_length seed N (sb s))
  obtain ⟨ab, cb, rfl, -⟩ := hb.shape
  have HL := Lib.hid (Led.start w)
  clear hK hK2 hb hbl hs hN
  go_enter Tryd.func8, Tryd.ntmps8
  go_wp2_with (first | (refine wpList_boxO rfl 39 (.tmp 1) rfl (.agg (drawsL seed N).toArray) rfl (.cells (drawsL seed N).toArray 39) (box_draws _) ?_; intro w' aa gg zz; replace HL := Lib.hid (HL.out.alloc aa gg.out); clear aa gg zz; try simp only [List.nil_append, List.cons_append, List.set_cons_zero, List.set_cons_succ] at HL))
  refine (HLv.out _ HL.out.aft).mono ?_
  rintro r w2 ⟨rfl, h2⟩
  replace HL := Lib.hid (HL.out.call h2)
  clear h2
  go_wp2_with fail
  refine (HF.out _ HL.out.aft).mono ?_
  rintro r w2' ⟨rfl, rfl⟩
  by_cases hf : ¬ few b
  · rw [decide_eq_false hf]
    go_wp2_with fail
    go_ret
    exact ⟨rfl, HL.out.aft⟩
  rw [decide_eq_true (Classical.not_not.1 hf)]
  clear hf
  by_cases h1 : (70000 : Int) < (s.size : Nat)
  · go_wp2_with fail
    go_ret
    exact ⟨rfl, HL.out.aft⟩
  have C7 := Lib.hid (fun (wx : World) (h : Aft w wx) => fork_any seed N s wx (TabK_fr HK.out (Fr.of_below (S := fun _ => False) h) (fun h => h)) HS.out HNn.out (by omega))
  have C8 := Lib.hid (fun (wx : World) (h : Aft w wx) => refFork_any seed N s wx (TabK_fr HK2.out (Fr.of_below (S := fun _ => False) h) (fun h => h)) HS.out HNn.out (by omega))
  generalize newS b = S1 at *
  generalize textErr b = f1 at *
  generalize nxK seed N = X at *
  generalize nxS seed N = S2 at *
  generalize nxN N = N2 at *
  generalize nxE N = f2 at *
  generalize mnS seed N n = S3 at *
  generalize mnN N n = N3 at *
  generalize mnE N n = f3 at *
  generalize mnK seed N n = ks at *
  generalize fkS seed N (sb s) = S4 at *
  generalize fkE N (sb s) = f4 at *
  generalize drwChk N = f5 at *
  by_cases h2 : (50 : Int) < n
  · by_cases h3 : n ≤ (1000 : Int)
    · go_wp2_with fail
      go_ret
      exact ⟨rfl, HL.out.aft⟩
    · go_wp2_with (first | fail)
      refine (C1.out _ HL.out.aft).mono ?_
      rintro r w3 ⟨rfl, hx⟩
      replace HL := Lib.hid (HL.out.call hx)
      clear hx
      go_wp2_with (first | (refine wpList_allocO rfl 39 rfl (.cells (drawsL (List.replicate 32 0) 0).toArray 39) alloc_draws ?_; intro w' aa gg zz; replace HL := Lib.hid (HL.out.alloc aa gg.out); clear aa gg zz; try simp only [List.nil_append, List.cons_append, List.set_cons_zero, List.set_cons_succ] at HL) | (refine wpList_store_drawsZ rfl (.tmp 10) (.tmp 51) rfl _ S1 0 L1.out rfl rfl _ (HL.out.get 1 rfl) drawsZ_size ?_; intro w' b1 b2 b3; replace HL := Lib.hid (HL.out.store 1 rfl b1 b2 b3); clear b1 b2 b3; try simp only [List.nil_append, List.cons_append, List.set_cons_zero, List.set_cons_succ] at HL))
      refine (C2.out _ HL.out.aft).mono ?_
      rintro r w4 ⟨rfl, hx⟩
      replace HL := Lib.hid (HL.out.call hx)
      clear hx
      go_wp2_with (first | (refine wpList_allocO rfl 39 rfl (.cells (drawsL (List.replicate 32 0) 0).toArray 39) alloc_draws ?_; intro w' aa gg zz; replace HL := Lib.hid (HL.out.alloc aa gg.out); clear aa gg zz; try simp only [List.nil_append, List.cons_append, List.set_cons_zero, List.set_cons_succ] at HL) | (refine wpList_store_drawsZ rfl (.tmp 12) (.tmp 56) rfl _ S1 0 L1.out rfl rfl _ (HL.out.get 2 rfl) drawsZ_size ?_; intro w' b1 b2 b3; replace HL := Lib.hid (HL.out.store 2 rfl b1 b2 b3); clear b1 b2 b3; try simp only [List.nil_append, List.cons_append, List.set_cons_zero, List.set_cons_succ] at HL) | (refine wpList_load_rowG (by kernel_rfl) 39 (.tmp 5) rfl _ rfl _ _ _ _ (HL.out.get 0 rfl) Tryd.underlying39 rfl (draws_info HS.out _) ?_))
      refine (C3.out _ HL.out.aft).mono ?_
      rintro r w5 ⟨rfl, hx⟩
      replace HL := Lib.hid (HL.out.call hx)
      clear hx
      go_wp2_with (first | (refine wpList_allocO rfl 23 rfl (.cells key0 23) alloc_key ?_; intro w' aa gg zz; replace HL := Lib.hid (HL.out.alloc aa gg.out); clear aa gg zz; try simp only [List.nil_append, List.cons_append, List.set_cons_zero, List.set_cons_succ] at HL) | (refine wpList_allocO rfl 39 rfl (.cells (drawsL (List.replicate 32 0) 0).toArray 39) alloc_draws ?_; intro w' aa gg zz; replace HL := Lib.hid (HL.out.alloc aa gg.out); clear aa gg zz; try simp only [List.nil_append, List.cons_append, List.set_cons_zero, List.set_cons_succ] at HL) | (refine wpList_store_keyZ rfl (.tmp 14) (.tmp 61) rfl _ X L2.out rfl rfl _ (HL.out.get 3 rfl) key0_size ?_; intro w' b1 b2 b3; replace HL := Lib.hid (HL.out.store 3 rfl b1 b2 b3); clear b1 b2 b3; try simp only [List.nil_append, List.cons_append, List.set_cons_zero, List.set_cons_succ] at HL) | (refine wpList_store_drawsZ rfl (.tmp 15) (.tmp 62) rfl _ S2 N2 L3.out rfl rfl _ (HL.out.get 4 rfl) drawsZ_size ?_; intro w' b1 b2 b3; replace HL := Lib.hid (HL.out.store 4 rfl b1 b2 b3); clear b1 b2 b3; try simp only [List.nil_append, List.cons_append, List.set_cons_zero, List.set_cons_succ] at HL) | (refine wpList_load_rowG (by kernel_rfl) 39 (.tmp 5) rfl _ rfl _ _ _ _ (HL.out.get 0 rfl) Tryd.underlying39 rfl (draws_info HS.out _) ?_))
      refine (C4.out _ HL.out.aft).mono ?_
      rintro r w6 ⟨rfl, hx⟩
      replace HL := Lib.hid (HL.out.call hx)
      clear hx
      go_wp2_with (first | (refine wpList_allocO rfl 23 rfl (.cells key0 23) alloc_key ?_; intro w' aa gg zz; replace HL := Lib.hid (HL.out.alloc aa gg.out); clear aa gg zz; try simp only [List.nil_append, List.cons_append, List.set_cons_zero, List.set_cons_succ] at HL) | (refine wpList_allocO rfl 39 rfl (.cells (drawsL (List.replicate 32 0) 0).toArray 39) alloc_draws ?_; intro w' aa gg zz; replace HL := Lib.hid (HL.out.alloc aa gg.out); clear aa gg zz; try simp only [List.nil_append, List.cons_append, List.set_cons_zero, List.set_cons_succ] at HL) | (refine wpList_store_keyZ rfl (.tmp 17) (.tmp 67) rfl _ X L2.out rfl rfl _ (HL.out.get 5 rfl) key0_size ?_; intro w' b1 b2 b3; replace HL := Lib.hid (HL.out.store 5 rfl b1 b2 b3); clear b1 b2 b3; try simp only [List.nil_append, List.cons_append, List.set_cons_zero, List.set_cons_succ] at HL) | (refine wpList_store_drawsZ rfl (.tmp 18) (.tmp 68) rfl _ S2 N2 L3.out rfl rfl _ (HL.out.get 6 rfl) drawsZ_size ?_; intro w' b1 b2 b3; replace HL := Lib.hid (HL.out.store 6 rfl b1 b2 b3); clear b1 b2 b3; try simp only [List.nil_append, List.cons_append, List.set_cons_zero, List.set_cons_succ] at HL) | (refine wpList_load_rowG (by kernel_rfl) 39 (.tmp 5) rfl _ rfl _ _ _ _ (HL.out.get 0 rfl) Tryd.underlying39 rfl (draws_info HS.out _) ?_))
      refine (C5.out _ HL.out.aft).mono ?_
      rintro r w7 ⟨v1, rfl, own1, hx⟩
      obtain ⟨ao1, cp1, rfl, -, -⟩ := own1.rd.shape
      have V1 := Lib.hid own1.rd
      replace HL := Lib.hid (HL.out.call hx)
      clear own1 hx
      go_wp2_with (first | (refine wpList_allocO rfl 39 rfl (.cells (drawsL (List.replicate 32 0) 0).toArray 39) alloc_draws ?_; intro w7a aa gg zz; have A7a := Lib.hid aa; replace HL := Lib.hid (HL.out.alloc aa gg.out); clear aa gg zz; try simp only [List.nil_append, List.cons_append, List.set_cons_zero, List.set_cons_succ] at HL) | (refine wpList_store_drawsZ rfl (.tmp 21) (.tmp 75) rfl _ S3 (N3) L4.out rfl rfl _ (HL.out.get 7 rfl) drawsZ_size ?_; intro w7b b1 b2 b3; have A7b := Lib.hid (b3 w7.heap.size w7 (Nat.le_refl _) A7a.out); replace HL := Lib.hid (HL.out.store 7 rfl b1 b2 b3); clear b1 b2 b3; try simp only [List.nil_append, List.cons_append, List.set_cons_zero, List.set_cons_succ] at HL) | (refine wpList_load_rowG (by kernel_rfl) 39 (.tmp 5) rfl _ rfl _ _ _ _ (HL.out.get 0 rfl) Tryd.underlying39 rfl (draws_info HS.out _) ?_))
      refine (C6.out _ HL.out.aft).mono ?_
      rintro r w8 ⟨v2, rfl, own2, hx⟩
      obtain ⟨ao2, cp2, rfl, -, -⟩ := own2.rd.shape
      have V2 := Lib.hid own2.rd
      replace HL := Lib.hid (HL.out.call hx)
      replace V1 := Lib.hid (V1.out.grow (Aft.trans A7b.out hx))
      clear own2 hx
      go_wp2_with (first | (refine wpList_allocO rfl 39 rfl (.cells (drawsL (List.replicate 32 0) 0).toArray 39) alloc_draws ?_; intro w8a aa gg zz; have A8a := Lib.hid aa; replace HL := Lib.hid (HL.out.alloc aa gg.out); clear aa gg zz; try simp only [List.nil_append, List.cons_append, List.set_cons_zero, List.set_cons_succ] at HL) | (refine wpList_store_drawsZ rfl (.tmp 24) (.tmp 82) rfl _ S3 (N3) L4.out rfl rfl _ (HL.out.get 8 rfl) drawsZ_size ?_; intro w8b b1 b2 b3; have A8b := Lib.hid (b3 w8.heap.size w8 (Nat.le_refl _) A8a.out); replace HL := Lib.hid (HL.out.store 8 rfl b1 b2 b3); clear b1 b2 b3; try simp only [List.nil_append, List.cons_append, List.set_cons_zero, List.set_cons_succ] at HL) | (refine wpList_load_rowG (by kernel_rfl) 39 (.tmp 5) rfl _ rfl _ _ _ _ (HL.out.get 0 rfl) Tryd.underlying39 rfl (draws_info HS.out _) ?_))
      replace V1 := Lib.hid (V1.out.grow A8b.out)
      replace V2 := Lib.hid (V2.out.grow A8b.out)
      refine (C7.out _ HL.out.aft).mono ?_
      rintro r w9 ⟨rfl, hx⟩
      replace HL := Lib.hid (HL.out.call hx)
      replace V1 := Lib.hid (V1.out.grow hx)
      replace V2 := Lib.hid (V2.out.grow hx)
      clear hx
      go_wp2_with (first | (refine wpList_allocO rfl 39 rfl (.cells (drawsL (List.replicate 32 0) 0).toArray 39) alloc_draws ?_; intro w9a aa gg zz; have A9a := Lib.hid aa; replace HL := Lib.hid (HL.out.alloc aa gg.out); clear aa gg zz; try simp only [List.nil_append, List.cons_append, List.set_cons_zero, List.set_cons_succ] at HL) | (refine wpList_store_drawsZ rfl (.tmp 26) (.tmp 88) rfl _ S4 (0) L5.out rfl rfl _ (HL.out.get 9 rfl) drawsZ_size ?_; intro w9b b1 b2 b3; have A9b := Lib.hid (b3 w9.heap.size w9 (Nat.le_refl _) A9a.out); replace HL := Lib.hid (HL.out.store 9 rfl b1 b2 b3); clear b1 b2 b3; try simp only [List.nil_append, List.cons_append, List.set_cons_zero, List.set_cons_succ] at HL) | (refine wpList_load_rowG (by kernel_rfl) 39 (.tmp 5) rfl _ rfl _ _ _ _ (HL.out.get 0 rfl) Tryd.underlying39 rfl (draws_info HS.out _) ?_))
      replace V1 := Lib.hid (V1.out.grow A9b.out)
      replace V2 := Lib.hid (V2.out.grow A9b.out)
      refine (C8.out _ HL.out.aft).mono ?_
      rintro r wt ⟨rfl, hx⟩
      replace HL := Lib.hid (HL.out.call hx)
      replace V1 := Lib.hid (V1.out.grow hx)
      replace V2 := Lib.hid (V2.out.grow hx)
      clear hx
      go_wp2_with (first | (refine wpList_allocO rfl 39 rfl (.cells (drawsL (List.replicate 32 0) 0).toArray 39) alloc_draws ?_; intro wta aa gg zz; have A10a := Lib.hid aa; replace HL := Lib.hid (HL.out.alloc aa gg.out); clear aa gg zz; try simp only [List.nil_append, List.cons_append, List.set_cons_zero, List.set_cons_succ] at HL) | (refine wpList_store_drawsZ rfl (.tmp 28) (.tmp 94) rfl _ S4 (0) L5.out rfl rfl _ (HL.out.get 10 rfl) drawsZ_size ?_; intro wtb b1 b2 b3; have A10b := Lib.hid (b3 wt.heap.size wt (Nat.le_refl _) A10a.out); replace HL := Lib.hid (HL.out.store 10 rfl b1 b2 b3); clear b1 b2 b3; try simp only [List.nil_append, List.cons_append, List.set_cons_zero, List.set_cons_succ] at HL))
      replace V1 := Lib.hid (V1.out.grow A10b.out)
      replace V2 := Lib.hid (V2.out.grow A10b.out)
      refine wp_region_lexF (fun i => ([0,0,0,0,0,0,0,0,0,0,0,0,0,0,0,0,0,0,0,0,0,0,0,0,0,0,0,0,0,2,0,0,0,0,0,0,0,0,0,0,0,0,0,0,0,0,0,0,0,0,0,0,0,2,0,2,0,0] : List Nat).getD i 0) 58 (by kernel_rfl) (by kernel_rfl) ?_; intro wr hwr
      have HAr := Lib.hid (show Aft wtb wr by rw [hwr]; exact (Below.refl _ _).drew)
      replace HL := Lib.hid (HL.out.call HAr.out)
      replace V1 := Lib.hid (V1.out.grow HAr.out)
      replace V2 := Lib.hid (V2.out.grow HAr.out)
      clear hwr HAr
      have HLr := HL
      repeat (first | (refine lf_skip (by go_big_quiet_skip; exact wpQuiet_nil trivial) (by kernel_rfl) ?_; simp only [Act.put, List.setIfInBounds_toArray, List.set_cons_succ, List.set_cons_zero]) | (refine lf_quiet rfl (by go_big_quiet_want; exact quiet_false (by assumption)) (by kernel_rfl) rfl ?_; intro Kx hKx; go_big_quiet_op; go_big_quiet_on))
      refine lf_load_row rfl (by kernel_rfl) 39 (.tmp 10) rfl _ rfl _ _ _ _ (HLr.out.get 1 rfl) Tryd.underlying39 rfl (draws_info L1.out _) ?_
      simp only [Act.put, List.setIfInBounds_toArray, List.set_cons_succ, List.set_cons_zero]
      refine lf_load_row rfl (by kernel_rfl) 39 (.tmp 12) rfl _ rfl _ _ _ _ (HLr.out.get 2 rfl) Tryd.underlying39 rfl (draws_info L1.out _) ?_
      simp only [Act.put, List.setIfInBounds_toArray, List.set_cons_succ, List.set_cons_zero]
      refine lf_bin rfl (by kernel_rfl) .eql 39 39 (.tmp 98) (.tmp 99) rfl _ _ _ rfl rfl (run_eql_draws L1.out L1.out true (by simp)) (guard_draws _ _ _ _ _) ?_
      simp only [Act.put, List.setIfInBounds_toArray, List.set_cons_succ, List.set_cons_zero]
      repeat (first | (refine lf_skip (by go_big_quiet_skip; exact wpQuiet_nil trivial) (by kernel_rfl) ?_; simp only [Act.put, List.setIfInBounds_toArray, List.set_cons_succ, List.set_cons_zero]) | (refine lf_quiet rfl (by go_big_quiet_want; exact quiet_false (by assumption)) (by kernel_rfl) rfl ?_; intro Kx hKx; go_big_quiet_op; go_big_quiet_on))
      refine lf_load_key rfl (by kernel_rfl) (.tmp 14) rfl _ 0 rfl X (HLr.out.key 3 rfl L2.out) L2.out ?_
      simp only [Act.put, List.setIfInBounds_toArray, List.set_cons_succ, List.set_cons_zero]
      refine lf_load_key rfl (by kernel_rfl) (.tmp 17) rfl _ 0 rfl X (HLr.out.key 5 rfl L2.out) L2.out ?_
      simp only [Act.put, List.setIfInBounds_toArray, List.set_cons_succ, List.set_cons_zero]
      refine lf_bin rfl (by kernel_rfl) .eql 23 23 (.tmp 108) (.tmp 109) rfl _ _ _ rfl rfl (run_eql_key X L2.out) (guard_key _ _ _ _ _) ?_
      simp only [Act.put, List.setIfInBounds_toArray, List.set_cons_succ, List.set_cons_zero]
      repeat (first | (refine lf_skip (by go_big_quiet_skip; exact wpQuiet_nil trivial) (by kernel_rfl) ?_; simp only [Act.put, List.setIfInBounds_toArray, List.set_cons_succ, List.set_cons_zero]) | (refine lf_quiet rfl (by go_big_quiet_want; exact quiet_false (by assumption)) (by kernel_rfl) rfl ?_; intro Kx hKx; go_big_quiet_op; go_big_quiet_on))
      refine lf_load_row rfl (by kernel_rfl) 39 (.tmp 15) rfl _ rfl _ _ _ _ (HLr.out.get 4 rfl) Tryd.underlying39 rfl (draws_info L3.out _) ?_
      simp only [Act.put, List.setIfInBounds_toArray, List.set_cons_succ, List.set_cons_zero]
      refine lf_load_row rfl (by kernel_rfl) 39 (.tmp 18) rfl _ rfl _ _ _ _ (HLr.out.get 6 rfl) Tryd.underlying39 rfl (draws_info L3.out _) ?_
      simp only [Act.put, List.setIfInBounds_toArray, List.set_cons_succ, List.set_cons_zero]
      refine lf_bin rfl (by kernel_rfl) .eql 39 39 (.tmp 113) (.tmp 114) rfl _ _ _ rfl rfl (run_eql_draws L3.out L3.out true (by simp)) (guard_draws _ _ _ _ _) ?_
      simp only [Act.put, List.setIfInBounds_toArray, List.set_cons_succ, List.set_cons_zero]
      repeat (first | (refine lf_skip (by go_big_quiet_skip; exact wpQuiet_nil trivial) (by kernel_rfl) ?_; simp only [Act.put, List.setIfInBounds_toArray, List.set_cons_succ, List.set_cons_zero]) | (refine lf_quiet rfl (by go_big_quiet_want; exact quiet_false (by assumption)) (by kernel_rfl) rfl ?_; intro Kx hKx; go_big_quiet_op; go_big_quiet_on))
      refine lf_eff rfl (by go_big_quiet_want; exact quiet_false (by assumption)) (by kernel_rfl) ?_
      intro wa ha Kx hKx
      replace HL := Lib.hid (HL.out.call ha)
      go_wp2_with fail
      refine (keysSame_any _ _ ks _ (V1.out.grow ha) (V2.out.grow ha)).mono ?_
      rintro r wb ⟨rfl, hbb⟩
      go_wp2_with fail
      refine ⟨hbb, ?_⟩
      replace HL := Lib.hid (HL.out.call hbb)
      clear hbb ha
      repeat (first | (refine lf_skip (by go_big_quiet_skip; exact wpQuiet_nil trivial) (by kernel_rfl) ?_; simp only [Act.put, List.setIfInBounds_toArray, List.set_cons_succ, List.set_cons_zero]) | (refine lf_quiet rfl (by go_big_quiet_want; exact quiet_false (by assumption)) (by kernel_rfl) rfl ?_; intro Kx hKx; go_big_quiet_op; go_big_quiet_on))
      refine lf_load_row rfl (by kernel_rfl) 39 (.tmp 21) rfl _ rfl _ _ _ _ (HLr.out.get 7 rfl) Tryd.underlying39 rfl (draws_info L4.out _) ?_
      simp only [Act.put, List.setIfInBounds_toArray, List.set_cons_succ, List.set_cons_zero]
      refine lf_load_row rfl (by kernel_rfl) 39 (.tmp 24) rfl _ rfl _ _ _ _ (HLr.out.get 8 rfl) Tryd.underlying39 rfl (draws_info L4.out _) ?_
      simp only [Act.put, List.setIfInBounds_toArray, List.set_cons_succ, List.set_cons_zero]
      refine lf_bin rfl (by kernel_rfl) .eql 39 39 (.tmp 128) (.tmp 129) rfl _ _ _ rfl rfl (run_eql_draws L4.out L4.out true (by simp)) (guard_draws _ _ _ _ _) ?_
      simp only [Act.put, List.setIfInBounds_toArray, List.set_cons_succ, List.set_cons_zero]
      repeat (first | (refine lf_skip (by go_big_quiet_skip; exact wpQuiet_nil trivial) (by kernel_rfl) ?_; simp only [Act.put, List.setIfInBounds_toArray, List.set_cons_succ, List.set_cons_zero]) | (refine lf_quiet rfl (by go_big_quiet_want; exact quiet_false (by assumption)) (by kernel_rfl) rfl ?_; intro Kx hKx; go_big_quiet_op; go_big_quiet_on))
      refine lf_load_row rfl (by kernel_rfl) 39 (.tmp 26) rfl _ rfl _ _ _ _ (HLr.out.get 9 rfl) Tryd.underlying39 rfl (draws_info L5.out _) ?_
      simp only [Act.put, List.setIfInBounds_toArray, List.set_cons_succ, List.set_cons_zero]
      refine lf_load_row rfl (by kernel_rfl) 39 (.tmp 28) rfl _ rfl _ _ _ _ (HLr.out.get 10 rfl) Tryd.underlying39 rfl (draws_info L5.out _) ?_
      simp only [Act.put, List.setIfInBounds_toArray, List.set_cons_succ, List.set_cons_zero]
      refine lf_bin rfl (by kernel_rfl) .eql 39 39 (.tmp 138) (.tmp 139) rfl _ _ _ rfl rfl (run_eql_draws L5.out L5.out true (by simp)) (guard_draws _ _ _ _ _) ?_
      simp only [Act.put, List.setIfInBounds_toArray, List.set_cons_succ, List.set_cons_zero]
      repeat (first | (refine lf_skip (by go_big_quiet_skip; exact wpQuiet_nil trivial) (by kernel_rfl) ?_; simp only [Act.put, List.setIfInBounds_toArray, List.set_cons_succ, List.set_cons_zero]) | (refine lf_quiet rfl (by go_big_quiet_want; exact quiet_false (by assumption)) (by kernel_rfl) rfl ?_; intro Kx hKx; go_big_quiet_op; go_big_quiet_on))
      refine lf_load_row rfl (by kernel_rfl) 39 (.tmp 5) rfl _ rfl _ _ _ _ (HLr.out.get 0 rfl) Tryd.underlying39 rfl (draws_info HS.out _) ?_
      simp only [Act.put, List.setIfInBounds_toArray, List.set_cons_succ, List.set_cons_zero]
      refine lf_eff rfl (by go_big_quiet_want; exact quiet_false (by assumption)) (by kernel_rfl) ?_
      intro wc hcc Kx hKx
      replace HL := Lib.hid (HL.out.call hcc)
      go_wp2_with fail
      refine (C10.out _).mono ?_
      rintro r wd ⟨rfl, hd⟩
      go_wp2_with fail
      refine ⟨hd, ?_⟩
      replace HL := Lib.hid (HL.out.call hd)
      clear hd hcc
      refine lf_load_row rfl (by kernel_rfl) 39 (.tmp 5) rfl _ rfl _ _ _ _ (HLr.out.get 0 rfl) Tryd.underlying39 rfl (draws_info HS.out _) ?_
      simp only [Act.put, List.setIfInBounds_toArray, List.set_cons_succ, List.set_cons_zero]
      refine lf_eff rfl (by go_big_quiet_want; exact quiet_false (by assumption)) (by kernel_rfl) ?_
      intro we he Kx hKx
      replace HL := Lib.hid (HL.out.call he)
      go_wp2_with fail
      refine (C11.out _).mono ?_
      rintro r wf ⟨rfl, hff⟩
      go_wp2_with fail
      refine ⟨hff, ?_⟩
      replace HL := Lib.hid (HL.out.call hff)
      clear hff he
      repeat (first | (refine lf_skip (by go_big_quiet_skip; exact wpQuiet_nil trivial) (by kernel_rfl) ?_; simp only [Act.put, List.setIfInBounds_toArray, List.set_cons_succ, List.set_cons_zero]) | (refine lf_quiet rfl (by go_big_quiet_want; exact quiet_false (by assumption)) (by kernel_rfl) rfl ?_; intro Kx hKx; go_big_quiet_op; go_big_quiet_on))
      refine lf_done ?_
      intro wz htt
      replace HL := Lib.hid (HL.out.call htt)
      clear htt
      go_wp2_with fail
      go_ret
      exact ⟨rfl, HL.out.aft⟩
  · go_wp2_with (first | fail)
    refine (C1.out _ HL.out.aft).mono ?_
    rintro r w3 ⟨rfl, hx⟩
    replace HL := Lib.hid (HL.out.call hx)
    clear hx
    go_wp2_with (first | (refine wpList_allocO rfl 39 rfl (.cells (drawsL (List.replicate 32 0) 0).toArray 39) alloc_draws ?_; intro w' aa gg zz; replace HL := Lib.hid (HL.out.alloc aa gg.out); clear aa gg zz; try simp only [List.nil_append, List.cons_append, List.set_cons_zero, List.set_cons_succ] at HL) | (refine wpList_store_drawsZ rfl (.tmp 10) (.tmp 51) rfl _ S1 0 L1.out rfl rfl _ (HL.out.get 1 rfl) drawsZ_size ?_; intro w' b1 b2 b3; replace HL := Lib.hid (HL.out.store 1 rfl b1 b2 b3); clear b1 b2 b3; try simp only [List.nil_append, List.cons_append, List.set_cons_zero, List.set_cons_succ] at HL))
    refine (C2.out _ HL.out.aft).mono ?_
    rintro r w4 ⟨rfl, hx⟩
    replace HL := Lib.hid (HL.out.call hx)
    clear hx
    go_wp2_with (first | (refine wpList_allocO rfl 39 rfl (.cells (drawsL (List.replicate 32 0) 0).toArray 39) alloc_draws ?_; intro w' aa gg zz; replace HL := Lib.hid (HL.out.alloc aa gg.out); clear aa gg zz; try simp only [List.nil_append, List.cons_append, List.set_cons_zero, List.set_cons_succ] at HL) | (refine wpList_store_drawsZ rfl (.tmp 12) (.tmp 56) rfl _ S1 0 L1.out rfl rfl _ (HL.out.get 2 rfl) drawsZ_size ?_; intro w' b1 b2 b3; replace HL := Lib.hid (HL.out.store 2 rfl b1 b2 b3); clear b1 b2 b3; try simp only [List.nil_append, List.cons_append, List.set_cons_zero, List.set_cons_succ] at HL) | (refine wpList_load_rowG (by kernel_rfl) 39 (.tmp 5) rfl _ rfl _ _ _ _ (HL.out.get 0 rfl) Tryd.underlying39 rfl (draws_info HS.out _) ?_))
    refine (C3.out _ HL.out.aft).mono ?_
    rintro r w5 ⟨rfl, hx⟩
    replace HL := Lib.hid (HL.out.call hx)
    clear hx
    go_wp2_with (first | (refine wpList_allocO rfl 23 rfl (.cells key0 23) alloc_key ?_; intro w' aa gg zz; replace HL := Lib.hid (HL.out.alloc aa gg.out); clear aa gg zz; try simp only [List.nil_append, List.cons_append, List.set_cons_zero, List.set_cons_succ] at HL) | (refine wpList_allocO rfl 39 rfl (.cells (drawsL (List.replicate 32 0) 0).toArray 39) alloc_draws ?_; intro w' aa gg zz; replace HL := Lib.hid (HL.out.alloc aa gg.out); clear aa gg zz; try simp only [List.nil_append, List.cons_append, List.set_cons_zero, List.set_cons_succ] at HL) | (refine wpList_store_keyZ rfl (.tmp 14) (.tmp 61) rfl _ X L2.out rfl rfl _ (HL.out.get 3 rfl) key0_size ?_; intro w' b1 b2 b3; replace HL := Lib.hid (HL.out.store 3 rfl b1 b2 b3); clear b1 b2 b3; try simp only [List.nil_append, List.cons_append, List.set_cons_zero, List.set_cons_succ] at HL) | (refine wpList_store_drawsZ rfl (.tmp 15) (.tmp 62) rfl _ S2 N2 L3.out rfl rfl _ (HL.out.get 4 rfl) drawsZ_size ?_; intro w' b1 b2 b3; replace HL := Lib.hid (HL.out.store 4 rfl b1 b2 b3); clear b1 b2 b3; try simp only [List.nil_append, List.cons_append, List.set_cons_zero, List.set_cons_succ] at HL) | (refine wpList_load_rowG (by kernel_rfl) 39 (.tmp 5) rfl _ rfl _ _ _ _ (HL.out.get 0 rfl) Tryd.underlying39 rfl (draws_info HS.out _) ?_))
    refine (C4.out _ HL.out.aft).mono ?_
    rintro r w6 ⟨rfl, hx⟩
    replace HL := Lib.hid (HL.out.call hx)
    clear hx
    go_wp2_with (first | (refine wpList_allocO rfl 23 rfl (.cells key0 23) alloc_key ?_; intro w' aa gg zz; replace HL := Lib.hid (HL.out.alloc aa gg.out); clear aa gg zz; try simp only [List.nil_append, List.cons_append, List.set_cons_zero, List.set_cons_succ] at HL) | (refine wpList_allocO rfl 39 rfl (.cells (drawsL (List.replicate 32 0) 0).toArray 39) alloc_draws ?_; intro w' aa gg zz; replace HL := Lib.hid (HL.out.alloc aa gg.out); clear aa gg zz; try simp only [List.nil_append, List.cons_append, List.set_cons_zero, List.set_cons_succ] at HL) | (refine wpList_store_keyZ rfl (.tmp 17) (.tmp 67) rfl _ X L2.out rfl rfl _ (HL.out.get 5 rfl) key0_size ?_; intro w' b1 b2 b3; replace HL := Lib.hid (HL.out.store 5 rfl b1 b2 b3); clear b1 b2 b3; try simp only [List.nil_append, List.cons_append, List.set_cons_zero, List.set_cons_succ] at HL) | (refine wpList_store_drawsZ rfl (.tmp 18) (.tmp 68) rfl _ S2 N2 L3.out rfl rfl _ (HL.out.get 6 rfl) drawsZ_size ?_; intro w' b1 b2 b3; replace HL := Lib.hid (HL.out.store 6 rfl b1 b2 b3); clear b1 b2 b3; try simp only [List.nil_append, List.cons_append, List.set_cons_zero, List.set_cons_succ] at HL) | (refine wpList_load_rowG (by kernel_rfl) 39 (.tmp 5) rfl _ rfl _ _ _ _ (HL.out.get 0 rfl) Tryd.underlying39 rfl (draws_info HS.out _) ?_))
    refine (C5.out _ HL.out.aft).mono ?_
    rintro r w7 ⟨v1, rfl, own1, hx⟩
    obtain ⟨ao1, cp1, rfl, -, -⟩ := own1.rd.shape
    have V1 := Lib.hid own1.rd
    replace HL := Lib.hid (HL.out.call hx)
    clear own1 hx
    go_wp2_with (first | (refine wpList_allocO rfl 39 rfl (.cells (drawsL (List.replicate 32 0) 0).toArray 39) alloc_draws ?_; intro w7a aa gg zz; have A7a := Lib.hid aa; replace HL := Lib.hid (HL.out.alloc aa gg.out); clear aa gg zz; try simp only [List.nil_append, List.cons_append, List.set_cons_zero, List.set_cons_succ] at HL) | (refine wpList_store_drawsZ rfl (.tmp 21) (.tmp 75) rfl _ S3 (N3) L4.out rfl rfl _ (HL.out.get 7 rfl) drawsZ_size ?_; intro w7b b1 b2 b3; have A7b := Lib.hid (b3 w7.heap.size w7 (Nat.le_refl _) A7a.out); replace HL := Lib.hid (HL.out.store 7 rfl b1 b2 b3); clear b1 b2 b3; try simp only [List.nil_append, List.cons_append, List.set_cons_zero, List.set_cons_succ] at HL) | (refine wpList_load_rowG (by kernel_rfl) 39 (.tmp 5) rfl _ rfl _ _ _ _ (HL.out.get 0 rfl) Tryd.underlying39 rfl (draws_info HS.out _) ?_))
    refine (C6.out _ HL.out.aft).mono ?_
    rintro r w8 ⟨v2, rfl, own2, hx⟩
    obtain ⟨ao2, cp2, rfl, -, -⟩ := own2.rd.shape
    have V2 := Lib.hid own2.rd
    replace HL := Lib.hid (HL.out.call hx)
    replace V1 := Lib.hid (V1.out.grow (Aft.trans A7b.out hx))
    clear own2 hx
    go_wp2_with (first | (refine wpList_allocO rfl 39 rfl (.cells (drawsL (List.replicate 32 0) 0).toArray 39) alloc_draws ?_; intro w8a aa gg zz; have A8a := Lib.hid aa; replace HL := Lib.hid (HL.out.alloc aa gg.out); clear aa gg zz; try simp only [List.nil_append, List.cons_append, List.set_cons_zero, List.set_cons_succ] at HL) | (refine wpList_store_drawsZ rfl (.tmp 24) (.tmp 82) rfl _ S3 (N3) L4.out rfl rfl _ (HL.out.get 8 rfl) drawsZ_size ?_; intro w8b b1 b2 b3; have A8b := Lib.hid (b3 w8.heap.size w8 (Nat.le_refl _) A8a.out); replace HL := Lib.hid (HL.out.store 8 rfl b1 b2 b3); clear b1 b2 b3; try simp only [List.nil_append, List.cons_append, List.set_cons_zero, List.set_cons_succ] at HL) | (refine wpList_load_rowG (by kernel_rfl) 39 (.tmp 5) rfl _ rfl _ _ _ _ (HL.out.get 0 rfl) Tryd.underlying39 rfl (draws_info HS.out _) ?_))
    replace V1 := Lib.hid (V1.out.grow A8b.out)
    replace V2 := Lib.hid (V2.out.grow A8b.out)
    refine (C7.out _ HL.out.aft).mono ?_
    rintro r w9 ⟨rfl, hx⟩
    replace HL := Lib.hid (HL.out.call hx)
    replace V1 := Lib.hid (V1.out.grow hx)
    replace V2 := Lib.hid (V2.out.grow hx)
    clear hx
    go_wp2_with (first | (refine wpList_allocO rfl 39 rfl (.cells (drawsL (List.replicate 32 0) 0).toArray 39) alloc_draws ?_; intro w9a aa gg zz; have A9a := Lib.hid aa; replace HL := Lib.hid (HL.out.alloc aa gg.out); clear aa gg zz; try simp only [List.nil_append, List.cons_append, List.set_cons_zero, List.set_cons_succ] at HL) | (refine wpList_store_drawsZ rfl (.tmp 26) (.tmp 88) rfl _ S4 (0) L5.out rfl rfl _ (HL.out.get 9 rfl) drawsZ_size ?_; intro w9b b1 b2 b3; have A9b := Lib.hid (b3 w9.heap.size w9 (Nat.le_refl _) A9a.out); replace HL := Lib.hid (HL.out.store 9 rfl b1 b2 b3); clear b1 b2 b3; try simp only [List.nil_append, List.cons_append, List.set_cons_zero, List.set_cons_succ] at HL) | (refine wpList_load_rowG (by kernel_rfl) 39 (.tmp 5) rfl _ rfl _ _ _ _ (HL.out.get 0 rfl) Tryd.underlying39 rfl (draws_info HS.out _) ?_))
    replace V1 := Lib.hid (V1.out.grow A9b.out)
    replace V2 := Lib.hid (V2.out.grow A9b.out)
    refine (C8.out _ HL.out.aft).mono ?_
    rintro r wt ⟨rfl, hx⟩
    replace HL := Lib.hid (HL.out.call hx)
    replace V1 := Lib.hid (V1.out.grow hx)
    replace V2 := Lib.hid (V2.out.grow hx)
    clear hx
    go_wp2_with (first | (refine wpList_allocO rfl 39 rfl (.cells (drawsL (List.replicate 32 0) 0).toArray 39) alloc_draws ?_; intro wta aa gg zz; have A10a := Lib.hid aa; replace HL := Lib.hid (HL.out.alloc aa gg.out); clear aa gg zz; try simp only [List.nil_append, List.cons_append, List.set_cons_zero, List.set_cons_succ] at HL) | (refine wpList_store_drawsZ rfl (.tmp 28) (.tmp 94) rfl _ S4 (0) L5.out rfl rfl _ (HL.out.get 10 rfl) drawsZ_size ?_; intro wtb b1 b2 b3; have A10b := Lib.hid (b3 wt.heap.size wt (Nat.le_refl _) A10a.out); replace HL := Lib.hid (HL.out.store 10 rfl b1 b2 b3); clear b1 b2 b3; try simp only [List.nil_append, List.cons_append, List.set_cons_zero, List.set_cons_succ] at HL))
    replace V1 := Lib.hid (V1.out.grow A10b.out)
    replace V2 := Lib.hid (V2.out.grow A10b.out)
    refine wp_region_lexF (fun i => ([0,0,0,0,0,0,0,0,0,0,0,0,0,0,0,0,0,0,0,0,0,0,0,0,0,0,0,0,0,2,0,0,0,0,0,0,0,0,0,0,0,0,0,0,0,0,0,0,0,0,0,0,0,2,0,2,0,0] : List Nat).getD i 0) 58 (by kernel_rfl) (by kernel_rfl) ?_; intro wr hwr
    have HAr := Lib.hid (show Aft wtb wr by rw [hwr]; exact (Below.refl _ _).drew)
    replace HL := Lib.hid (HL.out.call HAr.out)
    replace V1 := Lib.hid (V1.out.grow HAr.out)
    replace V2 := Lib.hid (V2.out.grow HAr.out)
    clear hwr HAr
    have HLr := HL
    repeat (first | (refine lf_skip (by go_big_quiet_skip; exact wpQuiet_nil trivial) (by kernel_rfl) ?_; simp only [Act.put, List.setIfInBounds_toArray, List.set_cons_succ, List.set_cons_zero]) | (refine lf_quiet rfl (by go_big_quiet_want; exact quiet_false (by assumption)) (by kernel_rfl) rfl ?_; intro Kx hKx; go_big_quiet_op; go_big_quiet_on))
    refine lf_load_row rfl (by kernel_rfl) 39 (.tmp 10) rfl _ rfl _ _ _ _ (HLr.out.get 1 rfl) Tryd.underlying39 rfl (draws_info L1.out _) ?_
    simp only [Act.put, List.setIfInBounds_toArray, List.set_cons_succ, List.set_cons_zero]
    refine lf_load_row rfl (by kernel_rfl) 39 (.tmp 12) rfl _ rfl _ _ _ _ (HLr.out.get 2 rfl) Tryd.underlying39 rfl (draws_info L1.out _) ?_
    simp only [Act.put, List.setIfInBounds_toArray, List.set_cons_succ, List.set_cons_zero]
    refine lf_bin rfl (by kernel_rfl) .eql 39 39 (.tmp 98) (.tmp 99) rfl _ _ _ rfl rfl (run_eql_draws L1.out L1.out true (by simp)) (guard_draws _ _ _ _ _) ?_
    simp only [Act.put, List.setIfInBounds_toArray, List.set_cons_succ, List.set_cons_zero]
    repeat (first | (refine lf_skip (by go_big_quiet_skip; exact wpQuiet_nil trivial) (by kernel_rfl) ?_; simp only [Act.put, List.setIfInBounds_toArray, List.set_cons_succ, List.set_cons_zero]) | (refine lf_quiet rfl (by go_big_quiet_want; exact quiet_false (by assumption)) (by kernel_rfl) rfl ?_; intro Kx hKx; go_big_quiet_op; go_big_quiet_on))
    refine lf_load_key rfl (by kernel_rfl) (.tmp 14) rfl _ 0 rfl X (HLr.out.key 3 rfl L2.out) L2.out ?_
    simp only [Act.put, List.setIfInBounds_toArray, List.set_cons_succ, List.set_cons_zero]
    refine lf_load_key rfl (by kernel_rfl) (.tmp 17) rfl _ 0 rfl X (HLr.out.key 5 rfl L2.out) L2.out ?_
    simp only [Act.put, List.setIfInBounds_toArray, List.set_cons_succ, List.set_cons_zero]
    refine lf_bin rfl (by kernel_rfl) .eql 23 23 (.tmp 108) (.tmp 109) rfl _ _ _ rfl rfl (run_eql_key X L2.out) (guard_key _ _ _ _ _) ?_
    simp only [Act.put, List.setIfInBounds_toArray, List.set_cons_succ, List.set_cons_zero]
    repeat (first | (refine lf_skip (by go_big_quiet_skip; exact wpQuiet_nil trivial) (by kernel_rfl) ?_; simp only [Act.put, List.setIfInBounds_toArray, List.set_cons_succ, List.set_cons_zero]) | (refine lf_quiet rfl (by go_big_quiet_want; exact quiet_false (by assumption)) (by kernel_rfl) rfl ?_; intro Kx hKx; go_big_quiet_op; go_big_quiet_on))
    refine lf_load_row rfl (by kernel_rfl) 39 (.tmp 15) rfl _ rfl _ _ _ _ (HLr.out.get 4 rfl) Tryd.underlying39 rfl (draws_info L3.out _) ?_
    simp only [Act.put, List.setIfInBounds_toArray, List.set_cons_succ, List.set_cons_zero]
    refine lf_load_row rfl (by kernel_rfl) 39 (.tmp 18) rfl _ rfl _ _ _ _ (HLr.out.get 6 rfl) Tryd.underlying39 rfl (draws_info L3.out _) ?_
    simp only [Act.put, List.setIfInBounds_toArray, List.set_cons_succ, List.set_cons_zero]
    refine lf_bin rfl (by kernel_rfl) .eql 39 39 (.tmp 113) (.tmp 114) rfl _ _ _ rfl rfl (run_eql_draws L3.out L3.out true (by simp)) (guard_draws _ _ _ _ _) ?_
    simp only [Act.put, List.setIfInBounds_toArray, List.set_cons_succ, List.set_cons_zero]
    repeat (first | (refine lf_skip (by go_big_quiet_skip; exact wpQuiet_nil trivial) (by kernel_rfl) ?_; simp only [Act.put, List.setIfInBounds_toArray, List.set_cons_succ, List.set_cons_zero]) | (refine lf_quiet rfl (by go_big_quiet_want; exact quiet_false (by assumption)) (by kernel_rfl) rfl ?_; intro Kx hKx; go_big_quiet_op; go_big_quiet_on))
    refine lf_eff rfl (by go_big_quiet_want; exact quiet_false (by assumption)) (by kernel_rfl) ?_
    intro wa ha Kx hKx
    replace HL := Lib.hid (HL.out.call ha)
    go_wp2_with fail
    refine (keysSame_any _ _ ks _ (V1.out.grow ha) (V2.out.grow ha)).mono ?_
    rintro r wb ⟨rfl, hbb⟩
    go_wp2_with fail
    refine ⟨hbb, ?_⟩
    replace HL := Lib.hid (HL.out.call hbb)
    clear hbb ha
    repeat (first | (refine lf_skip (by go_big_quiet_skip; exact wpQuiet_nil trivial) (by kernel_rfl) ?_; simp only [Act.put, List.setIfInBounds_toArray, List.set_cons_succ, List.set_cons_zero]) | (refine lf_quiet rfl (by go_big_quiet_want; exact quiet_false (by assumption)) (by kernel_rfl) rfl ?_; intro Kx hKx; go_big_quiet_op; go_big_quiet_on))
    refine lf_load_row rfl (by kernel_rfl) 39 (.tmp 21) rfl _ rfl _ _ _ _ (HLr.out.get 7 rfl) Tryd.underlying39 rfl (draws_info L4.out _) ?_
    simp only [Act.put, List.setIfInBounds_toArray, List.set_cons_succ, List.set_cons_zero]
    refine lf_load_row rfl (by kernel_rfl) 39 (.tmp 24) rfl _ rfl _ _ _ _ (HLr.out.get 8 rfl) Tryd.underlying39 rfl (draws_info L4.out _) ?_
    simp only [Act.put, List.setIfInBounds_toArray, List.set_cons_succ, List.set_cons_zero]
    refine lf_bin rfl (by kernel_rfl) .eql 39 39 (.tmp 128) (.tmp 129) rfl _ _ _ rfl rfl (run_eql_draws L4.out L4.out true (by simp)) (guard_draws _ _ _ _ _) ?_
    simp only [Act.put, List.setIfInBounds_toArray, List.set_cons_succ, List.set_cons_zero]
    repeat (first | (refine lf_skip (by go_big_quiet_skip; exact wpQuiet_nil trivial) (by kernel_rfl) ?_; simp only [Act.put, List.setIfInBounds_toArray, List.set_cons_succ, List.set_cons_zero]) | (refine lf_quiet rfl (by go_big_quiet_want; exact quiet_false (by assumption)) (by kernel_rfl) rfl ?_; intro Kx hKx; go_big_quiet_op; go_big_quiet_on))
    refine lf_load_row rfl (by kernel_rfl) 39 (.tmp 26) rfl _ rfl _ _ _ _ (HLr.out.get 9 rfl) Tryd.underlying39 rfl (draws_info L5.out _) ?_
    simp only [Act.put, List.setIfInBounds_toArray, List.set_cons_succ, List.set_cons_zero]
    refine lf_load_row rfl (by kernel_rfl) 39 (.tmp 28) rfl _ rfl _ _ _ _ (HLr.out.get 10 rfl) Tryd.underlying39 rfl (draws_info L5.out _) ?_
    simp only [Act.put, List.setIfInBounds_toArray, List.set_cons_succ, List.set_cons_zero]
    refine lf_bin rfl (by kernel_rfl) .eql 39 39 (.tmp 138) (.tmp 139) rfl _ _ _ rfl rfl (run_eql_draws L5.out L5.out true (by simp)) (guard_draws _ _ _ _ _) ?_
    simp only [Act.put, List.setIfInBounds_toArray, List.set_cons_succ, List.set_cons_zero]
    repeat (first | (refine lf_skip (by go_big_quiet_skip; exact wpQuiet_nil trivial) (by kernel_rfl) ?_; simp only [Act.put, List.setIfInBounds_toArray, List.set_cons_succ, List.set_cons_zero]) | (refine lf_quiet rfl (by go_big_quiet_want; exact quiet_false (by assumption)) (by kernel_rfl) rfl ?_; intro Kx hKx; go_big_quiet_op; go_big_quiet_on))
    refine lf_load_row rfl (by kernel_rfl) 39 (.tmp 5) rfl _ rfl _ _ _ _ (HLr.out.get 0 rfl) Tryd.underlying39 rfl (draws_info HS.out _) ?_
    simp only [Act.put, List.setIfInBounds_toArray, List.set_cons_succ, List.set_cons_zero]
    refine lf_eff rfl (by go_big_quiet_want; exact quiet_false (by assumption)) (by kernel_rfl) ?_
    intro wc hcc Kx hKx
    replace HL := Lib.hid (HL.out.call hcc)
    go_wp2_with fail
    refine (C10.out _).mono ?_
    rintro r wd ⟨rfl, hd⟩
    go_wp2_with fail
    refine ⟨hd, ?_⟩
    replace HL := Lib.hid (HL.out.call hd)
    clear hd hcc
    refine lf_load_row rfl (by kernel_rfl) 39 (.tmp 5) rfl _ rfl _ _ _ _ (HLr.out.get 0 rfl) Tryd.underlying39 rfl (draws_info HS.out _) ?_
    simp only [Act.put, List.setIfInBounds_toArray, List.set_cons_succ, List.set_cons_zero]
    refine lf_eff rfl (by go_big_quiet_want; exact quiet_false (by assumption)) (by kernel_rfl) ?_
    intro we he Kx hKx
    replace HL := Lib.hid (HL.out.call he)
    go_wp2_with fail
    refine (C11.out _).mono ?_
    rintro r wf ⟨rfl, hff⟩
    go_wp2_with fail
    refine ⟨hff, ?_⟩
    replace HL := Lib.hid (HL.out.call hff)
    clear hff he
    repeat (first | (refine lf_skip (by go_big_quiet_skip; exact wpQuiet_nil trivial) (by kernel_rfl) ?_; simp only [Act.put, List.setIfInBounds_toArray, List.set_cons_succ, List.set_cons_zero]) | (refine lf_quiet rfl (by go_big_quiet_want; exact quiet_false (by assumption)) (by kernel_rfl) rfl ?_; intro Kx hKx; go_big_quiet_op; go_big_quiet_on))
    refine lf_done ?_
    intro wz htt
    replace HL := Lib.hid (HL.out.call htt)
    clear htt
    go_wp2_with fail
    go_ret
    exact ⟨rfl, HL.out.aft⟩
end Go.Proofs.YtanodhagpegbfaaDoor
