/- slices.Equal, SameInts: lists of any length. -/
import Derived.Test.YtpnckphfjcnooaaT2
namespace Go.Proofs.Ytpnckphfjcnooaa
open Go Go.RowKit
set_option linter.unusedSimpArgs false
set_option maxRecDepth 100000 in
set_option maxHeartbeats 1000000 in
theorem equalW_any (v u : Value) (xs ys : List Int) (w : World) (hx : Rd w v (zv xs)) (hy : Rd w u (zv ys)) (hl : xs.length ≤ 9223372036854775807) :
    Calls Try.prog 57 #[v, u] w fun e w' => e = .returned (.bool (decide (xs = ys))) ∧ Aft w w' := by
  obtain ⟨ao, cap, rfl, -, -⟩ := hx.numS
  obtain ⟨bo, dap, rfl, -, -⟩ := hy.numS
  have HX := Lib.hid (fun (wx : World) (ha : Aft w wx) => hx.grow ha)
  have HY := Lib.hid (fun (wx : World) (ha : Aft w wx) => hy.grow ha)
  obtain ⟨bq, hbq⟩ : ∃ bq, bq = decide (xs = ys) := ⟨_, rfl⟩
  have HB := Lib.hid hbq
  rw [← hbq]
  clear hx hy hbq
  go_enter Try.func57, Try.ntmps57
  by_cases hlen : xs.length = ys.length
  rotate_left
  · have HR := Lib.hid (show bq = false by rw [HB.out]; exact decide_eq_false (fun q => hlen (by rw [q])))
    rw [HR.out]
    have hlen' : ¬ ((xs.length : Nat) : Int) = (ys.length : Nat) := by omega
    go_wp2_with fail
    go_ret
    exact ⟨rfl, Aft.refl _⟩
  have HLn := Lib.hid hlen
  rw [← hlen]
  clear hlen
  go_wp2_with fail
  go_loopw [13] (fun v13 wr => ∃ i : Nat, i ≤ xs.length ∧ v13 = .int .i64 (i : Int) ∧ (∀ j, j < i → xs[j]? = ys[j]?) ∧ Aft w wr) (fun v _ => xs.length - (intOf v).toNat)
  case atStart => exact ⟨0, by omega, rfl, fun j hj => absurd hj (Nat.not_lt_zero _), Aft.refl _⟩
  case round =>
    obtain ⟨i, hi, rfl, hsm, hA⟩ := hrel
    have HA := Lib.hid hA
    have HSm := Lib.hid hsm
    clear hA hsm
    by_cases hlt : i < xs.length
    · have hlt' : (i : Int) < (xs.length : Nat) := by omega
      have hylt : i < ys.length := by rw [← HLn.out]; exact hlt
      obtain ⟨b1, o1, rfl, -, -⟩ := (HX.out _ HA.out).some_of (by rw [zv_length]; omega)
      obtain ⟨b2, o2, rfl, -, -⟩ := (HY.out _ HA.out).some_of (by rw [zv_length]; omega)
      have cx := fun u : Later wr.heap.size wr => (HX.out _ (Aft.trans HA.out u.h)).num_at hlt
      have hy0 := HY.out
      have cy := fun u : Later wr.heap.size wr => (hy0 _ (Aft.trans HA.out u.h)).num_at hylt
      have HXe := Lib.hid (show xs[i]? = some (xs.getD i 0) by rw [List.getD_eq_getElem?_getD, List.getElem?_eq_getElem hlt]; rfl)
      have HYe := Lib.hid (show ys[i]? = some (ys.getD i 0) by rw [List.getD_eq_getElem?_getD, List.getElem?_eq_getElem hylt]; rfl)
      generalize xs.getD i 0 = x at *
      generalize ys.getD i 0 = y at *
      clear hylt hy0
      have HDr := Lib.hid (Aft.trans HA.out (show Aft wr wr.drew from (Below.refl _ _).drew))
      by_cases hxy : x = y
      · subst hxy
        go_wp2_with (first | (refine wp_region_lex (fun wz => ∃ u : Later wr.heap.size wr, wz = u.w) (fun i => ([] : List Nat).contains i) 9 (by kernel_rfl) (by kernel_rfl) ⟨⟨wr.drew, (Below.refl _ _).drew⟩, rfl⟩ ?_))
        change wpLx _ _ _ _ _ _ _ _ _ wr.drew
        try simp only [Act.put]
        repeat (first | (refine lx_skipT (by go_big_quiet_skip; exact wpQuiet_nil trivial) (by kernel_rfl) ?_; simp only [Act.put, List.setIfInBounds_toArray, List.set_cons_succ, List.set_cons_zero]) | (refine lx_quietT rfl (by go_big_quiet_want; exact quiet_false (by assumption)) (by kernel_rfl) rfl ?_; intro Kx hKx; go_big_quiet_op; go_big_quiet_on))
        refine lx_done ?_
        go_wp2_with fail
        go_roundw
        case rel =>
          refine ⟨i + 1, by omega, by go_num, fun j hj => ?_, HDr.out⟩
          by_cases hji : j = i
          · subst hji
            rw [HXe.out, HYe.out]
          · exact HSm.out j (by omega)
        case measure => simp [intOf]; omega
      · have HR2 := Lib.hid (show bq = false by
          rw [HB.out]
          exact decide_eq_false (fun e => hxy (by have := HXe.out; rw [e, HYe.out] at this; exact (Option.some.inj this).symm)))
        have hxb : (x != y) = true := by simpa using hxy
        go_wp2_with (first | (refine wp_region_lex (fun wz => ∃ u : Later wr.heap.size wr, wz = u.w) (fun i => ([] : List Nat).contains i) 9 (by kernel_rfl) (by kernel_rfl) ⟨⟨wr.drew, (Below.refl _ _).drew⟩, rfl⟩ ?_))
        change wpLx _ _ _ _ _ _ _ _ _ wr.drew
        try simp only [Act.put]
        repeat (first | (refine lx_skipT (by go_big_quiet_skip; exact wpQuiet_nil trivial) (by kernel_rfl) ?_; simp only [Act.put, List.setIfInBounds_toArray, List.set_cons_succ, List.set_cons_zero]) | (refine lx_quietT rfl (by go_big_quiet_want; exact quiet_false (by assumption)) (by kernel_rfl) rfl ?_; intro Kx hKx; go_big_quiet_op; go_big_quiet_on))
        refine lx_done ?_
        go_wp2_with fail
        go_ret
        exact ⟨by rw [HR2.out]; rfl, HDr.out⟩
    · obtain rfl : i = xs.length := by omega
      have hlt' : ¬ ((xs.length : Nat) : Int) < (xs.length : Nat) := by omega
      have HR2 := Lib.hid (show bq = true by
        rw [HB.out, decide_eq_true_eq]
        exact List.ext_getElem? fun j => by
          by_cases hj : j < xs.length
          · exact HSm.out j hj
          · rw [List.getElem?_eq_none (by omega), List.getElem?_eq_none (by have := HLn.out; omega)])
      go_wp2_with fail
      go_ret
      exact ⟨by rw [HR2.out]; rfl, HA.out⟩
set_option maxRecDepth 100000 in
set_option maxHeartbeats 1000000 in
theorem sameIntsW_any (v u : Value) (xs ys : List Int) (w : World) (hx : Rd w v (zv xs)) (hy : Rd w u (zv ys)) (hl : xs.length ≤ 9223372036854775807) :
    Calls Try.prog 21 #[v, u] w fun e w' => e = .returned (.bool (decide (xs = ys))) ∧ Aft w w' := by
  obtain ⟨ao, cap, rfl, -, -⟩ := hx.numS
  obtain ⟨bo, dap, rfl, -, -⟩ := hy.numS
  have HX := Lib.hid (fun (wx : World) (ha : Aft w wx) => hx.grow ha)
  have HY := Lib.hid (fun (wx : World) (ha : Aft w wx) => hy.grow ha)
  obtain ⟨bq, hbq⟩ : ∃ bq, bq = decide (xs = ys) := ⟨_, rfl⟩
  have HB := Lib.hid hbq
  rw [← hbq]
  clear hx hy hbq
  go_enter Try.func21, Try.ntmps21
  by_cases hlen : xs.length = ys.length
  rotate_left
  · have HR := Lib.hid (show bq = false by rw [HB.out]; exact decide_eq_false (fun q => hlen (by rw [q])))
    rw [HR.out]
    have hlen' : ¬ ((xs.length : Nat) : Int) = (ys.length : Nat) := by omega
    go_wp2_with fail
    go_ret
    exact ⟨rfl, Aft.refl _⟩
  have HLn := Lib.hid hlen
  rw [← hlen]
  clear hlen
  go_wp2_with fail
  go_loopw [13] (fun v13 wr => ∃ i : Nat, i ≤ xs.length ∧ v13 = .int .i64 (i : Int) ∧ (∀ j, j < i → xs[j]? = ys[j]?) ∧ Aft w wr) (fun v _ => xs.length - (intOf v).toNat)
  case atStart => exact ⟨0, by omega, rfl, fun j hj => absurd hj (Nat.not_lt_zero _), Aft.refl _⟩
  case round =>
    obtain ⟨i, hi, rfl, hsm, hA⟩ := hrel
    have HA := Lib.hid hA
    have HSm := Lib.hid hsm
    clear hA hsm
    by_cases hlt : i < xs.length
    · have hlt' : (i : Int) < (xs.length : Nat) := by omega
      have hylt : i < ys.length := by rw [← HLn.out]; exact hlt
      obtain ⟨b1, o1, rfl, -, -⟩ := (HX.out _ HA.out).some_of (by rw [zv_length]; omega)
      obtain ⟨b2, o2, rfl, -, -⟩ := (HY.out _ HA.out).some_of (by rw [zv_length]; omega)
      have cx := fun u : Later wr.heap.size wr => (HX.out _ (Aft.trans HA.out u.h)).num_at hlt
      have hy0 := HY.out
      have cy := fun u : Later wr.heap.size wr => (hy0 _ (Aft.trans HA.out u.h)).num_at hylt
      have HXe := Lib.hid (show xs[i]? = some (xs.getD i 0) by rw [List.getD_eq_getElem?_getD, List.getElem?_eq_getElem hlt]; rfl)
      have HYe := Lib.hid (show ys[i]? = some (ys.getD i 0) by rw [List.getD_eq_getElem?_getD, List.getElem?_eq_getElem hylt]; rfl)
      generalize xs.getD i 0 = x at *
      generalize ys.getD i 0 = y at *
      clear hylt hy0
      have HDr := Lib.hid (Aft.trans HA.out (show Aft wr wr.drew from (Below.refl _ _).drew))
      by_cases hxy : x = y
      · subst hxy
        go_wp2_with (first | (refine wp_region_lex (fun wz => ∃ u : Later wr.heap.size wr, wz = u.w) (fun i => ([] : List Nat).contains i) 9 (by kernel_rfl) (by kernel_rfl) ⟨⟨wr.drew, (Below.refl _ _).drew⟩, rfl⟩ ?_))
        change wpLx _ _ _ _ _ _ _ _ _ wr.drew
        try simp only [Act.put]
        repeat (first | (refine lx_skipT (by go_big_quiet_skip; exact wpQuiet_nil trivial) (by kernel_rfl) ?_; simp only [Act.put, List.setIfInBounds_toArray, List.set_cons_succ, List.set_cons_zero]) | (refine lx_quietT rfl (by go_big_quiet_want; exact quiet_false (by assumption)) (by kernel_rfl) rfl ?_; intro Kx hKx; go_big_quiet_op; go_big_quiet_on))
        refine lx_done ?_
        go_wp2_with fail
        go_roundw
        case rel =>
          refine ⟨i + 1, by omega, by go_num, fun j hj => ?_, HDr.out⟩
          by_cases hji : j = i
          · subst hji
            rw [HXe.out, HYe.out]
          · exact HSm.out j (by omega)
        case measure => simp [intOf]; omega
      · have HR2 := Lib.hid (show bq = false by
          rw [HB.out]
          exact decide_eq_false (fun e => hxy (by have := HXe.out; rw [e, HYe.out] at this; exact (Option.some.inj this).symm)))
        have hxb : (x != y) = true := by simpa using hxy
        go_wp2_with (first | (refine wp_region_lex (fun wz => ∃ u : Later wr.heap.size wr, wz = u.w) (fun i => ([] : List Nat).contains i) 9 (by kernel_rfl) (by kernel_rfl) ⟨⟨wr.drew, (Below.refl _ _).drew⟩, rfl⟩ ?_))
        change wpLx _ _ _ _ _ _ _ _ _ wr.drew
        try simp only [Act.put]
        repeat (first | (refine lx_skipT (by go_big_quiet_skip; exact wpQuiet_nil trivial) (by kernel_rfl) ?_; simp only [Act.put, List.setIfInBounds_toArray, List.set_cons_succ, List.set_cons_zero]) | (refine lx_quietT rfl (by go_big_quiet_want; exact quiet_false (by assumption)) (by kernel_rfl) rfl ?_; intro Kx hKx; go_big_quiet_op; go_big_quiet_on))
        refine lx_done ?_
        go_wp2_with fail
        go_ret
        exact ⟨by rw [HR2.out]; rfl, HDr.out⟩
    · obtain rfl : i = xs.length := by omega
      have hlt' : ¬ ((xs.length : Nat) : Int) < (xs.length : Nat) := by omega
      have HR2 := Lib.hid (show bq = true by
        rw [HB.out, decide_eq_true_eq]
        exact List.ext_getElem? fun j => by
          by_cases hj : j < xs.length
          · exact HSm.out j hj
          · rw [List.getElem?_eq_none (by omega), List.getElem?_eq_none (by have := HLn.out; omega)])
      go_wp2_with fail
      go_ret
      exact ⟨by rw [HR2.out]; rfl, HA.out⟩
end Go.Proofs.Ytpnckphfjcnooaa
