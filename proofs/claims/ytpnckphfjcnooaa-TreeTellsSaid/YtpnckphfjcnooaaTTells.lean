/- TreeTells of law 10, walked. -/
import Derived.Test.YtpnckphfjcnooaaT20
namespace Go.Proofs.Ytpnckphfjcnooaa
open Go Go.RowKit
set_option linter.unusedSimpArgs false
theorem spF_len {l f : List Int} (h : f.length ≤ 1048576) (h2 : ∀ x ∈ l, x = 2 ∨ x = 3) (hs : l.sum + 1 = (f.length : Nat)) : (spF l f).length ≤ 1048576 := by
  have := two_le_sum h2
  rw [spF_length]
  omega
theorem spanL_lenG : ∀ (ls : List (List Int)) (m : Int) (f : List Int) (n : Nat), okLv m ls = true → (f.length : Int) = m + 1 → f.length ≤ 1048576 → ((ls.take n).foldl (fun f l => spF l f) f).length ≤ 1048576
  | [], _, f, n, _, _, hf => by simpa using hf
  | l :: ls, m, f, 0, _, _, hf => by simpa using hf
  | l :: ls, m, f, n + 1, hok, hm, hf => by
    obtain ⟨k1, k2, k3, k4⟩ := okLv_cons hok
    rw [List.take_succ_cons, List.foldl_cons]
    exact spanL_lenG ls l.length (spF l f) n k4 (by rw [spF_length]; omega) (spF_len hf k2 (by omega))
theorem spanL_len {ids : List Int} {ls : List (List Int)} {n : Nat} (h : OkT ids ls) : (spanL ids.length (ls.take n)).length ≤ 1048576 := by
  have := h.1.1
  exact spanL_lenG ls ids.length (ones ids.length) n h.2 (by rw [ones_length]; omega) (by rw [ones_length]; omega)
set_option maxRecDepth 100000 in
set_option maxHeartbeats 8000000 in
theorem treeTells_any (vi vl ui ul : Value) (ids : List Int) (ls : List (List Int)) (ids' : List Int) (ls' : List (List Int)) (id level : Int) (w : World) (hi : Rd w vi (zv ids)) (hl : RdLs w vl ls) (hi' : Rd w ui (zv ids')) (hl' : RdLs w ul ls') :
    Calls Try.prog 6 #[.agg (shpL vi vl).toArray, .agg (shpL ui ul).toArray, .int .i64 id, .int .i64 level] w fun e w' => e = .returned (.bool true) ∧ Aft w w' := by
  have HFw := Lib.hid (fun (wx : World) (ha : Aft w wx) => tfew_any vi vl ids ls wx (hi.grow ha) (hl.aft ha))
  have HFw2 := Lib.hid (fun (wx : World) (ha : Aft w wx) => tfew_any ui ul ids' ls' wx (hi'.grow ha) (hl'.aft ha))
  have HCk := Lib.hid (fun (hs : Small ids ls) (wx : World) (ha : Aft w wx) => tcheck_any vi vl ids ls wx (hi.grow ha) (hl.aft ha) hs)
  have HCr := Lib.hid (fun (hs : Small ids ls) (wx : World) (ha : Aft w wx) => rcheck_any vi vl ids ls wx (hi.grow ha) (hl.aft ha) hs)
  have HFd := Lib.hid (fun (hs : Small ids ls) (wx : World) (ha : Aft w wx) => find_any vi vl ids id wx (hi.grow ha) hs.fi)
  have HFr := Lib.hid (fun (hs : Small ids ls) (wx : World) (ha : Aft w wx) => rfind_any vi vl ids id wx (hi.grow ha) hs.fi)
  have HPt := Lib.hid (fun (hs : Small ids ls) (wx : World) (ha : Aft w wx) => tpath_any vi vl ids ls id wx (hi.grow ha) (hl.aft ha) hs)
  have HPr := Lib.hid (fun (hs : Small ids ls) (wx : World) (ha : Aft w wx) => rpath_any vi vl ids ls id wx (hi.grow ha) (hl.aft ha) hs)
  have HSp := Lib.hid (fun (hs : Small ids ls) (wx : World) (ha : Aft w wx) => tspans_any vi vl ids ls level wx (hi.grow ha) (hl.aft ha) hs)
  have HSr := Lib.hid (fun (hs : Small ids ls) (wx : World) (ha : Aft w wx) => rspans_any vi vl ids ls level wx (hi.grow ha) (hl.aft ha) hs)
  have HTs := Lib.hid (fun (hs : Small ids ls) (wx : World) (ha : Aft w wx) => tsame_any vi vl ui ul ids ids' ls ls' wx (hi.grow ha) (hl.aft ha) hs (hi'.grow ha) (hl'.aft ha))
  have HRs := Lib.hid (fun (hs : Small ids ls) (hs' : Small ids' ls') (wx : World) (ha : Aft w wx) => rsame_any vi vl ui ul ids ids' ls ls' wx (hi.grow ha) (hl.aft ha) hs (hi'.grow ha) (hl'.aft ha) hs')
  obtain ⟨ao, cap, rfl, -, -⟩ := hi.numS
  obtain ⟨bo, dap, rfl, -⟩ := hl.shape
  obtain ⟨a1, cap1, rfl, -, -⟩ := hi'.numS
  obtain ⟨b1, dap1, rfl, -⟩ := hl'.shape
  have HL := Lib.hid (Led.start w)
  clear hi hl hi' hl'
  go_enter Try.func6, Try.ntmps6
  go_wp2_with (first | (refine wpList_dstT 4 rfl ?_; (refine wpList_boxO rfl 26 (.tmp 0) rfl (.agg (shpL (.slice ao ids.length cap) (.slice bo ls.length dap)).toArray) rfl (.cells (shpL (.slice ao ids.length cap) (.slice bo ls.length dap)).toArray 26) (box_shp _) ?_; intro wB aa gg zz; replace HL := Lib.hid (HL.out.alloc aa gg.out); clear aa gg zz; try simp only [List.nil_append, List.cons_append, List.set_cons_zero, List.set_cons_succ] at HL)) | (refine wpList_dstT 5 rfl ?_; (refine wpList_boxO rfl 26 (.tmp 1) rfl (.agg (shpL (.slice a1 ids'.length cap1) (.slice b1 ls'.length dap1)).toArray) rfl (.cells (shpL (.slice a1 ids'.length cap1) (.slice b1 ls'.length dap1)).toArray 26) (box_shp _) ?_; intro w' aa gg zz; replace HL := Lib.hid (HL.out.alloc aa gg.out); clear aa gg zz; try simp only [List.nil_append, List.cons_append, List.set_cons_zero, List.set_cons_succ] at HL)))
  refine (live10_any _).mono ?_
  rintro e w1 ⟨rfl, h1⟩
  replace HL := Lib.hid (HL.out.call h1)
  clear h1
  go_wp2_with (first | (refine wpList_dstT 23 rfl ?_; (refine wpList_load_rowG (by kernel_rfl) 26 (.tmp 4) rfl _ rfl _ _ _ _ (HL.out.get 0 rfl) Try.underlying26 rfl (shp_info _ _) ?_)))
  refine (HFw.out _ HL.out.aft).mono ?_
  rintro e w2 ⟨rfl, h2⟩
  replace HL := Lib.hid (HL.out.call h2)
  clear h2 HFw
  cases hf : fewT ids ls with
  | false =>
    clear hf
    go_wp2_with fail
    go_ret
    exact ⟨rfl, HL.out.aft⟩
  | true =>
    have HS := Lib.hid (fewT_small hf)
    clear hf
    go_wp2_with (first | (refine wpList_dstT 27 rfl ?_; (refine wpList_load_rowG (by kernel_rfl) 26 (.tmp 5) rfl _ rfl _ _ _ _ (HL.out.get 1 rfl) Try.underlying26 rfl (shp_info _ _) ?_)))
    refine (HFw2.out _ HL.out.aft).mono ?_
    rintro e w3 ⟨rfl, h3⟩
    replace HL := Lib.hid (HL.out.call h3)
    clear h3 HFw2
    cases hf : fewT ids' ls' with
    | false =>
      clear hf
      go_wp2_with fail
      go_ret
      exact ⟨rfl, HL.out.aft⟩
    | true =>
      have HS2 := Lib.hid (fewT_small hf)
      clear hf
      go_wp2_with (first | (refine wpList_dstT 33 rfl ?_; (refine wpList_load_rowG (by kernel_rfl) 26 (.tmp 4) rfl _ rfl _ _ _ _ (HL.out.get 0 rfl) Try.underlying26 rfl (shp_info _ _) ?_)))
      refine (HFd.out HS.out _ HL.out.aft).mono ?_
      rintro e wx ⟨rfl, hx⟩
      replace HL := Lib.hid (HL.out.call hx)
      clear hx HFd
      go_wp2_with (first | (refine wpList_dstT 39 rfl ?_; (refine wpList_load_rowG (by kernel_rfl) 26 (.tmp 4) rfl _ rfl _ _ _ _ (HL.out.get 0 rfl) Try.underlying26 rfl (shp_info _ _) ?_)))
      refine (HFr.out HS.out _ HL.out.aft).mono ?_
      rintro e wx ⟨rfl, hx⟩
      replace HL := Lib.hid (HL.out.call hx)
      clear hx HFr
      go_wp2_with (first | (refine wpList_dstT 45 rfl ?_; (refine wpList_load_rowG (by kernel_rfl) 26 (.tmp 4) rfl _ rfl _ _ _ _ (HL.out.get 0 rfl) Try.underlying26 rfl (shp_info _ _) ?_)))
      refine (HPt.out HS.out _ HL.out.aft).mono ?_
      rintro e wp ⟨vp, rfl, hp, hx⟩
      replace HL := Lib.hid (HL.out.call hx)
      obtain ⟨ap, cp, rfl, -, -⟩ := hp.numS
      have HP1 := Lib.hid (fun (wz : World) (h : Aft wp wz) => hp.grow h)
      have HA1 := Lib.hid (Aft.refl wp)
      clear hp
      clear hx HPt
      go_wp2_with (first | (refine wpList_dstT 51 rfl ?_; (refine wpList_load_rowG (by kernel_rfl) 26 (.tmp 4) rfl _ rfl _ _ _ _ (HL.out.get 0 rfl) Try.underlying26 rfl (shp_info _ _) ?_)))
      refine (HPr.out HS.out _ HL.out.aft).mono ?_
      rintro e wq ⟨vq, rfl, hq, hx⟩
      replace HL := Lib.hid (HL.out.call hx)
      obtain ⟨aq, cq, rfl, -, -⟩ := hq.numS
      have HP2 := Lib.hid (fun (wz : World) (h : Aft wq wz) => hq.grow h)
      have HA2 := Lib.hid (Aft.refl wq)
      replace HA1 := Lib.hid (Aft.trans HA1.out hx)
      clear hq
      clear hx HPr
      go_wp2_with (first | (refine wpList_dstT 57 rfl ?_; (refine wpList_load_rowG (by kernel_rfl) 26 (.tmp 4) rfl _ rfl _ _ _ _ (HL.out.get 0 rfl) Try.underlying26 rfl (shp_info _ _) ?_)))
      refine (HSp.out HS.out _ HL.out.aft).mono ?_
      rintro e ws ⟨vs, rfl, hs, hx⟩
      replace HL := Lib.hid (HL.out.call hx)
      obtain ⟨as9, cs9, rfl, -, -⟩ := hs.numS
      have HP3 := Lib.hid (fun (wz : World) (h : Aft ws wz) => hs.grow h)
      have HA3 := Lib.hid (Aft.refl ws)
      replace HA1 := Lib.hid (Aft.trans HA1.out hx)
      replace HA2 := Lib.hid (Aft.trans HA2.out hx)
      clear hs
      clear hx HSp
      go_wp2_with (first | (refine wpList_dstT 63 rfl ?_; (refine wpList_load_rowG (by kernel_rfl) 26 (.tmp 4) rfl _ rfl _ _ _ _ (HL.out.get 0 rfl) Try.underlying26 rfl (shp_info _ _) ?_)))
      refine (HSr.out HS.out _ HL.out.aft).mono ?_
      rintro e wt ⟨vt, rfl, ht, hx⟩
      replace HL := Lib.hid (HL.out.call hx)
      obtain ⟨at9, ct9, rfl, -, -⟩ := ht.numS
      have HP4 := Lib.hid (fun (wz : World) (h : Aft wt wz) => ht.grow h)
      have HA4 := Lib.hid (Aft.refl wt)
      replace HA1 := Lib.hid (Aft.trans HA1.out hx)
      replace HA2 := Lib.hid (Aft.trans HA2.out hx)
      replace HA3 := Lib.hid (Aft.trans HA3.out hx)
      clear ht
      clear hx HSr
      have HPl := Lib.hid (show (pathV ids ls id).length ≤ 1048576 by
        unfold pathV
        split
        · rw [pathL_length]; exact HS.out.fl
        · exact Nat.zero_le _)
      have HSl := Lib.hid (show (spanV ids ls level).length ≤ 1048576 by
        unfold spanV
        split
        · rename_i h
          have hok := (not_or.1 (show ¬ (¬ OkT ids ls ∨ level < 0 ∨ (ls.length : Int) ≤ level) from fun q => by rw [spanE, if_pos q] at h; cases h))
          have h1 := Decidable.of_not_not hok.1
          exact spanL_len h1
        · exact Nat.zero_le _)
      have HI1 := Lib.hid (fun (wz : World) (h1 : Aft wp wz) (h2 : Aft wq wz) => sameInts_any _ _ _ _ wz (HP1.out wz h1) (HP2.out wz h2) HPl.out)
      have HI2 := Lib.hid (fun (wz : World) (h1 : Aft ws wz) (h2 : Aft wt wz) => sameInts_any _ _ _ _ wz (HP3.out wz h1) (HP4.out wz h2) HSl.out)
      clear HP1 HP2 HP3 HP4 HPl HSl
      generalize (pathV ids ls id) = P at *
      generalize (spanV ids ls level) = Sv at *
      generalize pathE ids ls id = e1 at *
      generalize spanE ids ls level = e2 at *
      generalize cnt ids id = c at *
      generalize decide (id ∈ ids) = b at *
      generalize chkT ids ls = ck at *
      generalize decide (ids = ids' ∧ ls = ls') = bs at *
      go_wp2_with (first | (refine wp_region_lex (fun wz => ∃ u : Later wt.heap.size wt, wz = u.w) (fun i => ([3, 5, 21, 31, 41, 44] : List Nat).contains i) 48 (by kernel_rfl) (by kernel_rfl) ⟨⟨wt.drew, (Below.refl _ _).drew⟩, rfl⟩ ?_))
      change wpLx _ _ _ _ _ _ _ _ _ wt.drew
      have HDr := Lib.hid (show Aft wt wt.drew from (Below.refl _ _).drew)
      generalize wt.drew = wd at *
      try simp only [Act.put]
      repeat (first | (refine lx_skipT (by go_big_quiet_skip; exact wpQuiet_nil trivial) (by kernel_rfl) ?_; simp only [Act.put, List.setIfInBounds_toArray, List.set_cons_succ, List.set_cons_zero]) | (refine lx_quietT rfl (by go_big_quiet_want; exact quiet_false (by assumption)) (by kernel_rfl) rfl ?_; intro Kx hKx; go_big_quiet_op; go_big_quiet_on))
      refine lx_load_agg rfl (by kernel_rfl) 26 (.tmp 4) rfl ⟨w.heap.size, 0, none⟩ rfl (shpL (.slice ao ids.length cap) (.slice bo ls.length dap)).toArray (fun w' h => run_loadVar_row w' _ _ _ _ _ _ (by obtain ⟨u, rfl⟩ := h; exact Aft.get u.h (HL.out.get 0 rfl)) Try.underlying26 rfl (shp_info _ _)) ?_
      simp only [Act.put, List.setIfInBounds_toArray, List.set_cons_succ, List.set_cons_zero]
      repeat (first | (refine lx_skipT (by go_big_quiet_skip; exact wpQuiet_nil trivial) (by kernel_rfl) ?_; simp only [Act.put, List.setIfInBounds_toArray, List.set_cons_succ, List.set_cons_zero]) | (refine lx_quietT rfl (by go_big_quiet_want; exact quiet_false (by assumption)) (by kernel_rfl) rfl ?_; intro Kx hKx; go_big_quiet_op; go_big_quiet_on))
      refine lx_effT rfl (by go_big_quiet_want; exact quiet_false (by assumption)) (by kernel_rfl) ?_; intro Kx hKx; go_wp2_with fail
      refine (HCk.out HS.out _ (Aft.trans HL.out.aft HDr.out)).mono ?_
      rintro r w6 ⟨rfl, h6⟩
      go_wp2_with fail
      refine ⟨Later.on (Aft.trans HDr.out h6), ?_⟩
      replace HDr := Lib.hid (Aft.trans HDr.out h6)
      clear h6
      repeat (first | (refine lx_skipT (by go_big_quiet_skip; exact wpQuiet_nil trivial) (by kernel_rfl) ?_; simp only [Act.put, List.setIfInBounds_toArray, List.set_cons_succ, List.set_cons_zero]) | (refine lx_quietT rfl (by go_big_quiet_want; exact quiet_false (by assumption)) (by kernel_rfl) rfl ?_; intro Kx hKx; go_big_quiet_op; go_big_quiet_on))
      refine lx_load_agg rfl (by kernel_rfl) 26 (.tmp 4) rfl ⟨w.heap.size, 0, none⟩ rfl (shpL (.slice ao ids.length cap) (.slice bo ls.length dap)).toArray (fun w' h => run_loadVar_row w' _ _ _ _ _ _ (by obtain ⟨u, rfl⟩ := h; exact Aft.get u.h (HL.out.get 0 rfl)) Try.underlying26 rfl (shp_info _ _)) ?_
      simp only [Act.put, List.setIfInBounds_toArray, List.set_cons_succ, List.set_cons_zero]
      repeat (first | (refine lx_skipT (by go_big_quiet_skip; exact wpQuiet_nil trivial) (by kernel_rfl) ?_; simp only [Act.put, List.setIfInBounds_toArray, List.set_cons_succ, List.set_cons_zero]) | (refine lx_quietT rfl (by go_big_quiet_want; exact quiet_false (by assumption)) (by kernel_rfl) rfl ?_; intro Kx hKx; go_big_quiet_op; go_big_quiet_on))
      refine lx_effT rfl (by go_big_quiet_want; exact quiet_false (by assumption)) (by kernel_rfl) ?_; intro Kx hKx; go_wp2_with fail
      refine (HCr.out HS.out _ (Aft.trans HL.out.aft HDr.out)).mono ?_
      rintro r w6 ⟨rfl, h6⟩
      go_wp2_with fail
      refine ⟨Later.on (Aft.trans HDr.out h6), ?_⟩
      replace HDr := Lib.hid (Aft.trans HDr.out h6)
      clear h6
      repeat (first | (refine lx_skipT (by go_big_quiet_skip; exact wpQuiet_nil trivial) (by kernel_rfl) ?_; simp only [Act.put, List.setIfInBounds_toArray, List.set_cons_succ, List.set_cons_zero]) | (refine lx_quietT rfl (by go_big_quiet_want; exact quiet_false (by assumption)) (by kernel_rfl) rfl ?_; intro Kx hKx; go_big_quiet_op; go_big_quiet_on))
      refine lx_effT rfl (by go_big_quiet_want; exact quiet_false (by assumption)) (by kernel_rfl) ?_; intro Kx hKx; go_wp2_with fail
      refine (HI1.out _ (Aft.trans HA1.out HDr.out) (Aft.trans HA2.out HDr.out)).mono ?_
      rintro r w6 ⟨rfl, h6⟩
      first | rw [decide_eq_true rfl] | simp only [decide_true]
      go_wp2_with fail
      refine ⟨Later.on (Aft.trans HDr.out h6), ?_⟩
      replace HDr := Lib.hid (Aft.trans HDr.out h6)
      clear h6
      repeat (first | (refine lx_skipT (by go_big_quiet_skip; exact wpQuiet_nil trivial) (by kernel_rfl) ?_; simp only [Act.put, List.setIfInBounds_toArray, List.set_cons_succ, List.set_cons_zero]) | (refine lx_quietT rfl (by go_big_quiet_want; exact quiet_false (by assumption)) (by kernel_rfl) rfl ?_; intro Kx hKx; go_big_quiet_op; go_big_quiet_on))
      refine lx_effT rfl (by go_big_quiet_want; exact quiet_false (by assumption)) (by kernel_rfl) ?_; intro Kx hKx; go_wp2_with fail
      refine (HI2.out _ (Aft.trans HA3.out HDr.out) (Aft.trans HA4.out HDr.out)).mono ?_
      rintro r w6 ⟨rfl, h6⟩
      first | rw [decide_eq_true rfl] | simp only [decide_true]
      go_wp2_with fail
      refine ⟨Later.on (Aft.trans HDr.out h6), ?_⟩
      replace HDr := Lib.hid (Aft.trans HDr.out h6)
      clear h6
      repeat (first | (refine lx_skipT (by go_big_quiet_skip; exact wpQuiet_nil trivial) (by kernel_rfl) ?_; simp only [Act.put, List.setIfInBounds_toArray, List.set_cons_succ, List.set_cons_zero]) | (refine lx_quietT rfl (by go_big_quiet_want; exact quiet_false (by assumption)) (by kernel_rfl) rfl ?_; intro Kx hKx; go_big_quiet_op; go_big_quiet_on))
      refine lx_load_agg rfl (by kernel_rfl) 26 (.tmp 4) rfl ⟨w.heap.size, 0, none⟩ rfl (shpL (.slice ao ids.length cap) (.slice bo ls.length dap)).toArray (fun w' h => run_loadVar_row w' _ _ _ _ _ _ (by obtain ⟨u, rfl⟩ := h; exact Aft.get u.h (HL.out.get 0 rfl)) Try.underlying26 rfl (shp_info _ _)) ?_
      simp only [Act.put, List.setIfInBounds_toArray, List.set_cons_succ, List.set_cons_zero]
      refine lx_load_agg rfl (by kernel_rfl) 26 (.tmp 5) rfl ⟨wB.heap.size, 0, none⟩ rfl (shpL (.slice a1 ids'.length cap1) (.slice b1 ls'.length dap1)).toArray (fun w' h => run_loadVar_row w' _ _ _ _ _ _ (by obtain ⟨u, rfl⟩ := h; exact Aft.get u.h (HL.out.get 1 rfl)) Try.underlying26 rfl (shp_info _ _)) ?_
      simp only [Act.put, List.setIfInBounds_toArray, List.set_cons_succ, List.set_cons_zero]
      repeat (first | (refine lx_skipT (by go_big_quiet_skip; exact wpQuiet_nil trivial) (by kernel_rfl) ?_; simp only [Act.put, List.setIfInBounds_toArray, List.set_cons_succ, List.set_cons_zero]) | (refine lx_quietT rfl (by go_big_quiet_want; exact quiet_false (by assumption)) (by kernel_rfl) rfl ?_; intro Kx hKx; go_big_quiet_op; go_big_quiet_on))
      refine lx_effT rfl (by go_big_quiet_want; exact quiet_false (by assumption)) (by kernel_rfl) ?_; intro Kx hKx; go_wp2_with fail
      refine (HTs.out HS.out _ (Aft.trans HL.out.aft HDr.out)).mono ?_
      rintro r w6 ⟨rfl, h6⟩
      go_wp2_with fail
      refine ⟨Later.on (Aft.trans HDr.out h6), ?_⟩
      replace HDr := Lib.hid (Aft.trans HDr.out h6)
      clear h6
      repeat (first | (refine lx_skipT (by go_big_quiet_skip; exact wpQuiet_nil trivial) (by kernel_rfl) ?_; simp only [Act.put, List.setIfInBounds_toArray, List.set_cons_succ, List.set_cons_zero]) | (refine lx_quietT rfl (by go_big_quiet_want; exact quiet_false (by assumption)) (by kernel_rfl) rfl ?_; intro Kx hKx; go_big_quiet_op; go_big_quiet_on))
      refine lx_load_agg rfl (by kernel_rfl) 26 (.tmp 4) rfl ⟨w.heap.size, 0, none⟩ rfl (shpL (.slice ao ids.length cap) (.slice bo ls.length dap)).toArray (fun w' h => run_loadVar_row w' _ _ _ _ _ _ (by obtain ⟨u, rfl⟩ := h; exact Aft.get u.h (HL.out.get 0 rfl)) Try.underlying26 rfl (shp_info _ _)) ?_
      simp only [Act.put, List.setIfInBounds_toArray, List.set_cons_succ, List.set_cons_zero]
      refine lx_load_agg rfl (by kernel_rfl) 26 (.tmp 5) rfl ⟨wB.heap.size, 0, none⟩ rfl (shpL (.slice a1 ids'.length cap1) (.slice b1 ls'.length dap1)).toArray (fun w' h => run_loadVar_row w' _ _ _ _ _ _ (by obtain ⟨u, rfl⟩ := h; exact Aft.get u.h (HL.out.get 1 rfl)) Try.underlying26 rfl (shp_info _ _)) ?_
      simp only [Act.put, List.setIfInBounds_toArray, List.set_cons_succ, List.set_cons_zero]
      repeat (first | (refine lx_skipT (by go_big_quiet_skip; exact wpQuiet_nil trivial) (by kernel_rfl) ?_; simp only [Act.put, List.setIfInBounds_toArray, List.set_cons_succ, List.set_cons_zero]) | (refine lx_quietT rfl (by go_big_quiet_want; exact quiet_false (by assumption)) (by kernel_rfl) rfl ?_; intro Kx hKx; go_big_quiet_op; go_big_quiet_on))
      refine lx_effT rfl (by go_big_quiet_want; exact quiet_false (by assumption)) (by kernel_rfl) ?_; intro Kx hKx; go_wp2_with fail
      refine (HRs.out HS.out HS2.out _ (Aft.trans HL.out.aft HDr.out)).mono ?_
      rintro r w6 ⟨rfl, h6⟩
      go_wp2_with fail
      refine ⟨Later.on (Aft.trans HDr.out h6), ?_⟩
      replace HDr := Lib.hid (Aft.trans HDr.out h6)
      clear h6
      repeat (first | (refine lx_skipT (by go_big_quiet_skip; exact wpQuiet_nil trivial) (by kernel_rfl) ?_; simp only [Act.put, List.setIfInBounds_toArray, List.set_cons_succ, List.set_cons_zero]) | (refine lx_quietT rfl (by go_big_quiet_want; exact quiet_false (by assumption)) (by kernel_rfl) rfl ?_; intro Kx hKx; go_big_quiet_op; go_big_quiet_on))
      refine lx_done ?_
      have HZ := Lib.hid (Aft.trans HL.out.aft HDr.out)
      go_wp2_with fail
      go_ret
      exact ⟨rfl, HZ.out⟩
end Go.Proofs.Ytpnckphfjcnooaa
