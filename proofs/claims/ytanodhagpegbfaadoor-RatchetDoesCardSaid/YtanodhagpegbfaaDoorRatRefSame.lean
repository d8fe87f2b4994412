/- The document's ratchet: Same. -/
import Derived.Test.YtanodhagpegbfaaDoorRatRef
namespace Go.Proofs.YtanodhagpegbfaaDoor
open Go Go.RowKit
set_option linter.unusedSimpArgs false

theorem run_neq_keyB {X Y : List (BitVec 8)} (hX : X.length = 32) (hY : Y.length = 32) (b : Bool) (hb : decide (X = Y) = b) (w : World) : (Go.binOp .neq 23 (.agg (bv X).toArray) (.agg (bv Y).toArray)).run Tryd.prog w = .ok (.bool (!b)) w := by
  rw [run_neq_struct, run_eq_keyD 9998 hX hY, ← hb]
  rfl
set_option maxRecDepth 100000 in
set_option maxHeartbeats 4000000 in
theorem rsameRef_any (C D : List (BitVec 8)) (G H : Nat) (v u : Value) (xs ys : List Sk) (w : World) (hC : C.length = 32) (hD : D.length = 32) (hx : Sks w.heap.size w v xs) (hy : Sks w.heap.size w u ys) (hlx : xs.length ≤ 1048576) (hly : ys.length ≤ 1048576) :
    Calls Tryd.prog 62 #[.agg (ratL C G v).toArray, .agg (ratL D H u).toArray] w fun r w' => r = .returned (.bool (decide (C = D ∧ G = H ∧ xs = ys))) ∧ Aft w w' := by
  have HC := Lib.hid hC
  have HD := Lib.hid hD
  obtain ⟨a, c, rfl⟩ := hx.shape
  obtain ⟨b, d, rfl⟩ := hy.shape
  obtain ⟨g, hg⟩ : ∃ g : Int, g = (G : Int) := ⟨_, rfl⟩
  obtain ⟨h, hh⟩ : ∃ h : Int, h = (H : Int) := ⟨_, rfl⟩
  have HG := Lib.hid hg
  have HH := Lib.hid hh
  obtain ⟨bq, hbq⟩ : ∃ bq, bq = decide (C = D ∧ G = H ∧ xs = ys) := ⟨_, rfl⟩
  have HB := Lib.hid hbq
  rw [← hbq]
  have HL := Lib.hid (Led.start w)
  clear hC hD hbq
  go_enter Tryd.func62, Tryd.ntmps62
  by_cases h1 : C = D
  rotate_left
  · have hb1 := Lib.hid (decide_eq_false h1)
    have HR := Lib.hid (show bq = false by rw [HB.out]; simp [h1])
    rw [HR.out]
    clear h1 hg hh
    go_wp2_with (first | (refine wpList_boxO rfl 71 (.tmp 0) rfl (.agg (ratL C G (.slice a xs.length c)).toArray) rfl (.cells (ratL C G (.slice a xs.length c)).toArray 71) (box_rat _) ?_; intro wa aa gg zz; (try replace HO := Lib.hid (HO.out.aft aa)); (try replace HO2 := Lib.hid (HO2.out.aft aa)); (try replace HOK := Lib.hid (HOK.out.aft aa)); replace HL := Lib.hid (HL.out.alloc aa gg.out); clear aa gg zz; try simp only [List.nil_append, List.cons_append, List.set_cons_zero, List.set_cons_succ] at HL) | (refine wpList_boxO rfl 71 (.tmp 1) rfl (.agg (ratL D H (.slice b ys.length d)).toArray) rfl (.cells (ratL D H (.slice b ys.length d)).toArray 71) (box_rat _) ?_; intro wb aa gg zz; replace HL := Lib.hid (HL.out.alloc aa gg.out); clear aa gg zz; try simp only [List.nil_append, List.cons_append, List.set_cons_zero, List.set_cons_succ] at HL; have hn0 := rat_n (HL.out.get 0 rfl) HC.out; have hn1 := rat_n (HL.out.get 1 rfl) HD.out; have hl0 := rat_l (HL.out.get 0 rfl) HC.out; have hl1 := rat_l (HL.out.get 1 rfl) HD.out; rw [← HG.out] at hn0; rw [← HH.out] at hn1) | (refine wpList_load_keyG (by kernel_rfl) (.tmp 6) rfl _ _ rfl C (rat_c (HL.out.get 0 rfl) HC.out) HC.out ?_) | (refine wpList_load_keyG (by kernel_rfl) (.tmp 8) rfl _ _ rfl D (rat_c (HL.out.get 1 rfl) HD.out) HD.out ?_) | (refine wpList_binG (by kernel_rfl) .neq 23 23 (.tmp 7) (.tmp 9) rfl (.agg (bv C).toArray) (.agg (bv D).toArray) _ rfl rfl (run_neq_keyB HC.out HD.out false hb1.out) (guard_key _ _ _ _ _) ?_))
    go_ret
    exact ⟨rfl, HL.out.aft⟩
  have hb1 := Lib.hid (decide_eq_true h1)
  by_cases h2 : g = h
  rotate_left
  · have HR := Lib.hid (show bq = false by rw [HB.out]; have hq : ¬ G = H := (by omega); simp [hq])
    rw [HR.out]
    clear hg hh h1
    go_wp2_with (first | (refine wpList_boxO rfl 71 (.tmp 0) rfl (.agg (ratL C G (.slice a xs.length c)).toArray) rfl (.cells (ratL C G (.slice a xs.length c)).toArray 71) (box_rat _) ?_; intro wa aa gg zz; (try replace HO := Lib.hid (HO.out.aft aa)); (try replace HO2 := Lib.hid (HO2.out.aft aa)); (try replace HOK := Lib.hid (HOK.out.aft aa)); replace HL := Lib.hid (HL.out.alloc aa gg.out); clear aa gg zz; try simp only [List.nil_append, List.cons_append, List.set_cons_zero, List.set_cons_succ] at HL) | (refine wpList_boxO rfl 71 (.tmp 1) rfl (.agg (ratL D H (.slice b ys.length d)).toArray) rfl (.cells (ratL D H (.slice b ys.length d)).toArray 71) (box_rat _) ?_; intro wb aa gg zz; replace HL := Lib.hid (HL.out.alloc aa gg.out); clear aa gg zz; try simp only [List.nil_append, List.cons_append, List.set_cons_zero, List.set_cons_succ] at HL; have hn0 := rat_n (HL.out.get 0 rfl) HC.out; have hn1 := rat_n (HL.out.get 1 rfl) HD.out; have hl0 := rat_l (HL.out.get 0 rfl) HC.out; have hl1 := rat_l (HL.out.get 1 rfl) HD.out; rw [← HG.out] at hn0; rw [← HH.out] at hn1) | (refine wpList_load_keyG (by kernel_rfl) (.tmp 6) rfl _ _ rfl C (rat_c (HL.out.get 0 rfl) HC.out) HC.out ?_) | (refine wpList_load_keyG (by kernel_rfl) (.tmp 8) rfl _ _ rfl D (rat_c (HL.out.get 1 rfl) HD.out) HD.out ?_) | (refine wpList_binG (by kernel_rfl) .neq 23 23 (.tmp 7) (.tmp 9) rfl (.agg (bv C).toArray) (.agg (bv D).toArray) _ rfl rfl (run_neq_keyB HC.out HD.out true hb1.out) (guard_key _ _ _ _ _) ?_))
    go_ret
    exact ⟨rfl, HL.out.aft⟩
  by_cases h3 : ((xs.length : Nat) : Int) = (ys.length : Nat)
  rotate_left
  · have HR := Lib.hid (show bq = false by rw [HB.out]; have hq : ¬ xs = ys := (fun q => h3 (by rw [q])); simp [hq])
    rw [HR.out]
    clear hg hh h1
    subst h2
    have h3c : ¬ xs.length = ys.length := by omega
    go_wp2_with (first | (refine wpList_boxO rfl 71 (.tmp 0) rfl (.agg (ratL C G (.slice a xs.length c)).toArray) rfl (.cells (ratL C G (.slice a xs.length c)).toArray 71) (box_rat _) ?_; intro wa aa gg zz; (try replace HO := Lib.hid (HO.out.aft aa)); (try replace HO2 := Lib.hid (HO2.out.aft aa)); (try replace HOK := Lib.hid (HOK.out.aft aa)); replace HL := Lib.hid (HL.out.alloc aa gg.out); clear aa gg zz; try simp only [List.nil_append, List.cons_append, List.set_cons_zero, List.set_cons_succ] at HL) | (refine wpList_boxO rfl 71 (.tmp 1) rfl (.agg (ratL D H (.slice b ys.length d)).toArray) rfl (.cells (ratL D H (.slice b ys.length d)).toArray 71) (box_rat _) ?_; intro wb aa gg zz; replace HL := Lib.hid (HL.out.alloc aa gg.out); clear aa gg zz; try simp only [List.nil_append, List.cons_append, List.set_cons_zero, List.set_cons_succ] at HL; have hn0 := rat_n (HL.out.get 0 rfl) HC.out; have hn1 := rat_n (HL.out.get 1 rfl) HD.out; have hl0 := rat_l (HL.out.get 0 rfl) HC.out; have hl1 := rat_l (HL.out.get 1 rfl) HD.out; rw [← HG.out] at hn0; rw [← HH.out] at hn1) | (refine wpList_load_keyG (by kernel_rfl) (.tmp 6) rfl _ _ rfl C (rat_c (HL.out.get 0 rfl) HC.out) HC.out ?_) | (refine wpList_load_keyG (by kernel_rfl) (.tmp 8) rfl _ _ rfl D (rat_c (HL.out.get 1 rfl) HD.out) HD.out ?_) | (refine wpList_binG (by kernel_rfl) .neq 23 23 (.tmp 7) (.tmp 9) rfl (.agg (bv C).toArray) (.agg (bv D).toArray) _ rfl rfl (run_neq_keyB HC.out HD.out true hb1.out) (guard_key _ _ _ _ _) ?_))
    go_ret
    exact ⟨rfl, HL.out.aft⟩
  have HR := Lib.hid (show bq = decide (xs = ys) by rw [HB.out]; have hq : G = H := (by omega); simp [h1, hq])
  have HXx := Lib.hid (fun (wx : World) (ha : Aft w wx) => hx.aft ha)
  have HYy := Lib.hid (fun (wx : World) (ha : Aft w wx) => hy.aft ha)
  subst h2
  clear hg hh h1
  have hlen : xs.length = ys.length := by omega
  have HLn := Lib.hid hlen
  rw [← hlen]
  clear h3 hlen
  go_wp2_with (first | (refine wpList_boxO rfl 71 (.tmp 0) rfl (.agg (ratL C G (.slice a xs.length c)).toArray) rfl (.cells (ratL C G (.slice a xs.length c)).toArray 71) (box_rat _) ?_; intro wa aa gg zz; (try replace HO := Lib.hid (HO.out.aft aa)); (try replace HO2 := Lib.hid (HO2.out.aft aa)); (try replace HOK := Lib.hid (HOK.out.aft aa)); replace HL := Lib.hid (HL.out.alloc aa gg.out); clear aa gg zz; try simp only [List.nil_append, List.cons_append, List.set_cons_zero, List.set_cons_succ] at HL) | (refine wpList_boxO rfl 71 (.tmp 1) rfl (.agg (ratL D H (.slice b xs.length d)).toArray) rfl (.cells (ratL D H (.slice b xs.length d)).toArray 71) (box_rat _) ?_; intro wb aa gg zz; replace HL := Lib.hid (HL.out.alloc aa gg.out); clear aa gg zz; try simp only [List.nil_append, List.cons_append, List.set_cons_zero, List.set_cons_succ] at HL; have hn0 := rat_n (HL.out.get 0 rfl) HC.out; have hn1 := rat_n (HL.out.get 1 rfl) HD.out; have hl0 := rat_l (HL.out.get 0 rfl) HC.out; have hl1 := rat_l (HL.out.get 1 rfl) HD.out; rw [← HG.out] at hn0; rw [← HH.out] at hn1) | (refine wpList_load_keyG (by kernel_rfl) (.tmp 6) rfl _ _ rfl C (rat_c (HL.out.get 0 rfl) HC.out) HC.out ?_) | (refine wpList_load_keyG (by kernel_rfl) (.tmp 8) rfl _ _ rfl D (rat_c (HL.out.get 1 rfl) HD.out) HD.out ?_) | (refine wpList_binG (by kernel_rfl) .neq 23 23 (.tmp 7) (.tmp 9) rfl (.agg (bv C).toArray) (.agg (bv D).toArray) _ rfl rfl (run_neq_keyB HC.out HD.out true hb1.out) (guard_key _ _ _ _ _) ?_))
  clear hn0 hn1 hl0 hl1
  go_loopw [30] (fun v30 wr => ∃ i : Nat, i ≤ xs.length ∧ v30 = .int .i64 (i : Int) ∧ (∀ j, j < i → xs[j]? = ys[j]?) ∧ Led w wr [(w.heap.size, .cells (ratL C G (.slice a xs.length c)).toArray 71), (wa.heap.size, .cells (ratL D H (.slice b xs.length d)).toArray 71)]) (fun v _ => xs.length - (intOf v).toNat)
  case atStart => exact ⟨0, by omega, rfl, fun j hj => absurd hj (Nat.not_lt_zero _), HL.out⟩
  case round =>
    clear HL
    obtain ⟨i, hi, rfl, hsm, hL⟩ := hrel
    have HL := Lib.hid hL
    have HSm := Lib.hid hsm
    clear hL hsm
    by_cases hlt : i < xs.length
    rotate_left
    · obtain rfl : i = xs.length := by omega
      have hlt' : ¬ ((xs.length : Nat) : Int) < (xs.length : Nat) := by omega
      have HR2 := Lib.hid (show bq = true by
        rw [HR.out, decide_eq_true_eq]
        exact List.ext_getElem? fun j => by
          by_cases hj : j < xs.length
          · exact HSm.out j hj
          · rw [List.getElem?_eq_none (by omega), List.getElem?_eq_none (by have := HLn.out; omega)])
      go_wp2_with fail
      go_ret
      exact ⟨by rw [HR2.out]; rfl, HL.out.aft⟩
    · have hlt' : (i : Int) < (xs.length : Nat) := by omega
      rcases hx with ⟨-, rfl⟩ | ⟨b1, o1, c1, he, -, -⟩
      · exact absurd hlt (Nat.not_lt_zero _)
      cases he
      rcases hy with ⟨-, rfl⟩ | ⟨b2, o2, c2, he, -, -⟩
      · have h := HLn.out
        rw [List.length_nil] at h
        omega
      cases he
      obtain ⟨x, hxe⟩ : ∃ x, x = xs[i]?.getD default := ⟨_, rfl⟩
      obtain ⟨y, hye⟩ : ∃ y, y = ys[i]?.getD default := ⟨_, rfl⟩
      have HX := Lib.hid (show ∀ wx : World, Aft w wx → wx.rangeAt b1 (o1 + i * 33) (skL x) from fun wx ha => by
        rcases HXx.out wx ha with ⟨h, -⟩ | ⟨b3, o3, c3, he, -, hc⟩
        · cases h
        · cases he
          rw [hxe]
          exact hc i hlt)
      have HY := Lib.hid (show ∀ wx : World, Aft w wx → wx.rangeAt b2 (o2 + i * 33) (skL y) from fun wx ha => by
        rcases HYy.out wx ha with ⟨h, -⟩ | ⟨b3, o3, c3, he, -, hc⟩
        · cases h
        · cases he
          rw [hye]
          exact hc i (by have := HLn.out; omega))
      have HXe := Lib.hid (show xs[i]? = some x by rw [hxe, List.getElem?_eq_getElem hlt]; rfl)
      have HYe := Lib.hid (show ys[i]? = some y by rw [hye, List.getElem?_eq_getElem (by have := HLn.out; omega)]; rfl)
      clear hxe hye
      have hl0 := fun u : Later wr.heap.size wr => rat_l (Aft.get u.h (HL.out.get 0 rfl)) HC.out
      have hl1 := fun u : Later wr.heap.size wr => rat_l (Aft.get u.h (HL.out.get 1 rfl)) HD.out
      go_wp2_with (first | (refine wp_region_lex (fun wz => ∃ u : Later wr.heap.size wr, wz = u.w) (fun i => ([] : List Nat).contains i) 11 (by kernel_rfl) (by kernel_rfl) ⟨⟨wr.drew, (Below.refl _ _).drew⟩, rfl⟩ ?_))
      change wpLx _ _ _ _ _ _ _ _ _ wr.drew
      have HDr := Lib.hid (show Aft wr wr.drew from (Below.refl _ _).drew)
      try simp only [Act.put]
      repeat (first | (refine lx_skipT (by go_big_quiet_skip; exact wpQuiet_nil trivial) (by kernel_rfl) ?_; simp only [Act.put, List.setIfInBounds_toArray, List.set_cons_succ, List.set_cons_zero]) | (refine lx_quietT rfl (by go_big_quiet_want; exact quiet_false (by assumption)) (by kernel_rfl) rfl ?_; intro Kx hKx; go_big_quiet_op; go_big_quiet_on))
      refine lx_load_agg rfl (by kernel_rfl) 73 (.tmp 36) rfl ⟨b1, o1 + i * 33, none⟩ rfl (skL x).toArray (fun wz h => by obtain ⟨u, rfl⟩ := h; exact run_loadVar_sk x (HX.out _ (Aft.trans HL.out.aft u.h))) ?_
      simp only [Act.put, List.setIfInBounds_toArray, List.set_cons_succ, List.set_cons_zero]
      repeat (first | (refine lx_skipT (by go_big_quiet_skip; exact wpQuiet_nil trivial) (by kernel_rfl) ?_; simp only [Act.put, List.setIfInBounds_toArray, List.set_cons_succ, List.set_cons_zero]) | (refine lx_quietT rfl (by go_big_quiet_want; exact quiet_false (by assumption)) (by kernel_rfl) rfl ?_; intro Kx hKx; go_big_quiet_op; go_big_quiet_on))
      refine lx_load_agg rfl (by kernel_rfl) 73 (.tmp 41) rfl ⟨b2, o2 + i * 33, none⟩ rfl (skL y).toArray (fun wz h => by obtain ⟨u, rfl⟩ := h; exact run_loadVar_sk y (HY.out _ (Aft.trans HL.out.aft u.h))) ?_
      simp only [Act.put, List.setIfInBounds_toArray, List.set_cons_succ, List.set_cons_zero]
      refine lx_bin rfl (by kernel_rfl) .neq 73 73 (.tmp 37) (.tmp 42) rfl (.agg (skL x).toArray) (.agg (skL y).toArray) (.bool (!decide (x = y))) rfl rfl (fun w1 => run_neq_sk x y w1) (fun w1 => guard_sk _ _ _ _ _ _) ?_
      simp only [Act.put, List.setIfInBounds_toArray, List.set_cons_succ, List.set_cons_zero]
      refine lx_done ?_
      clear hl0 hl1
      replace HL := Lib.hid (HL.out.call HDr.out)
      by_cases hxy : x = y
      · subst hxy
        rw [show (!decide (x = x)) = false by simp]
        go_wp2_with fail
        go_roundw
        case rel =>
          refine ⟨i + 1, by omega, by go_num, fun j hj => ?_, HL.out⟩
          by_cases hji : j = i
          · subst hji
            rw [HXe.out, HYe.out]
          · exact HSm.out j (by omega)
        case measure => simp [intOf]; omega
      · have HR2 := Lib.hid (show bq = false by
          rw [HR.out]
          exact decide_eq_false (fun e => hxy (by have := HXe.out; rw [e, HYe.out] at this; exact (Option.some.inj this).symm)))
        rw [show (!decide (x = y)) = true by simp [hxy]]
        clear hxy
        go_wp2_with fail
        go_ret
        exact ⟨by rw [HR2.out]; rfl, HL.out.aft⟩
end Go.Proofs.YtanodhagpegbfaaDoor
