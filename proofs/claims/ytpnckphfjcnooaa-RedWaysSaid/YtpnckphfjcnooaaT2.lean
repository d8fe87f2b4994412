/- The library's Contains and Equal over numbers, the document's SameInts; tree.group, tree.Find. -/
import Derived.Test.YtpnckphfjcnooaaT1
namespace Go.Proofs.Ytpnckphfjcnooaa
open Go Go.RowKit
set_option linter.unusedSimpArgs false
def shpL (a b : Value) : List Value := [a, b]
section
variable {w : World} {g t : Nat} {fr : Nat × Nat} {a b : Value}
theorem shp_i (h : w.heap[g]? = some (.cells (shpL a b).toArray t fr)) : w.cell? ⟨g, 0, none⟩ = some a := cell_part h rfl
theorem shp_l (h : w.heap[g]? = some (.cells (shpL a b).toArray t fr)) : w.cell? ⟨g, 1, none⟩ = some b := cell_part h rfl
end
theorem box_shp (L : List Value) (w : World) : (Instr.box 26 (.agg L.toArray)).run Try.prog w = .ok (.pointer (some ⟨w.heap.size, 0, none⟩)) (w.alloc (.cells L.toArray 26)) := rfl
theorem alloc_shp (w : World) : (Instr.alloc 26 true (.tuple #[])).run Try.prog w = .ok (.pointer (some ⟨w.heap.size, 0, none⟩)) (w.alloc (.cells (shpL (.slice none 0 0) (.slice none 0 0)).toArray 26)) := by kernel_rfl
theorem build_shp0 (w : World) : (Instr.build 26 #[]).run Try.prog w = .ok (.agg (shpL (.slice none 0 0) (.slice none 0 0)).toArray) w := by kernel_rfl
theorem shp_info (a b : Value) : (Try.prog.info? 26).map (·.size) = some (shpL a b).toArray.size := by kernel_rfl
theorem shp_size (a b : Value) : (shpL a b).toArray.size = 2 := rfl
set_option maxRecDepth 100000 in
set_option maxHeartbeats 1000000 in
theorem index_any (v : Value) (y : Int) (xs : List Int) (w : World) (h : Rd w v (zv xs)) (hl : xs.length ≤ 1048576) :
    Calls Try.prog 76 #[v, .int .i64 y] w fun e w' => e = .returned (.int .i64 (fixI (fun x => y == x) xs)) ∧ w' = w := by
  obtain ⟨ao, cap, rfl, -, -⟩ := h.numS
  have HR := Lib.hid h
  clear h
  go_enter Try.func76, Try.ntmps76
  go_wp2_with fail
  go_loopw [8] (fun v8 wr => ∃ i : Nat, i ≤ xs.length ∧ v8 = .int .i64 (i : Int) ∧ (∀ j, j < i → (y == xs.getD j 0) = false) ∧ wr = w) (fun v _ => xs.length - (intOf v).toNat)
  case atStart => exact ⟨0, by omega, rfl, fun j hj => absurd hj (Nat.not_lt_zero _), rfl⟩
  case round =>
    obtain ⟨i, hi, rfl, hne, rfl⟩ := hrel
    have HN := Lib.hid hne
    clear hne
    by_cases hlt : i < xs.length
    · have hlt' : (i : Int) < (xs.length : Nat) := by omega
      obtain ⟨g, o, rfl, -, -⟩ := HR.out.some_of (by rw [zv_length]; omega)
      have hc := HR.out.num_at hlt
      have HX := Lib.hid (fun q => fixI_hit (p := fun x => y == x) hlt q HN.out)
      have HX2 := Lib.hid (show (y == xs.getD i 0) = false → ∀ j, j < i + 1 → (y == xs.getD j 0) = false from fun q j hj => by
        by_cases e : j = i
        · subst e; exact q
        · exact HN.out j (by omega))
      generalize xs.getD i 0 = x at *
      by_cases hq : y = x
      · have HI := Lib.hid (HX.out (by simpa using hq))
        subst hq
        go_wp2_with fail
        go_ret
        exact ⟨by rw [HI.out]; rfl, rfl⟩
      · have HI := Lib.hid (HX2.out (by simpa using hq))
        go_wp2_with fail
        go_roundw
        case rel => exact ⟨i + 1, by omega, by go_num, HI.out, by trivial⟩
        case measure => simp [intOf]; omega
    · obtain rfl : i = xs.length := by omega
      have hlt' : ¬ ((xs.length : Nat) : Int) < (xs.length : Nat) := by omega
      have HI := Lib.hid (fixI_miss (p := fun x => y == x) HN.out)
      go_wp2_with fail
      go_ret
      exact ⟨by rw [HI.out]; rfl, rfl⟩
set_option maxRecDepth 100000 in
theorem contains_any (v : Value) (y : Int) (xs : List Int) (w : World) (h : Rd w v (zv xs)) (hl : xs.length ≤ 1048576) :
    Calls Try.prog 55 #[v, .int .i64 y] w fun e w' => e = .returned (.bool (decide (y ∈ xs))) ∧ w' = w := by
  have HI := Lib.hid (index_any v y xs w h hl)
  rw [show decide (y ∈ xs) = decide (0 ≤ fixI (fun x => y == x) xs) by rw [fixI_any, List.any_beq, List.contains_eq_mem]]
  clear h hl
  go_enter Try.func55, Try.ntmps55
  go_wp2_with fail
  refine HI.out.mono ?_
  rintro e w2 ⟨rfl, rfl⟩
  go_wp2_with fail
  go_ret
  exact ⟨rfl, rfl⟩
theorem grp_lt {l : List Int} {a : Int} {g : Nat} (hp : pos l) (h0 : 0 ≤ a) (hs : a < l.sum) (hg : g ≤ grpG l a) : frm l g ≤ a ∧ g < l.length ∧ (frm l (g + 1) ≤ a → g + 1 ≤ grpG l a) ∧ (a < frm l (g + 1) → g = grpG l a) := by
  obtain ⟨s1, s2, s3⟩ := grp_spec l a h0 hs
  have h1 := frm_mono hp hg
  refine ⟨by omega, by omega, fun h => ?_, fun h => (grp_unique hp (by omega) h).symm⟩
  rcases Nat.lt_or_ge g (grpG l a) with h2 | h2
  · exact h2
  · have e : g = grpG l a := by omega
    rw [e] at h
    omega
set_option maxRecDepth 100000 in
theorem group_any (v : Value) (l : List Int) (a : Int) (w : World) (h : Rd w v (zv l)) (h2 : ∀ x ∈ l, x = 2 ∨ x = 3) (hl : l.length ≤ 1048576) (h0 : 0 ≤ a) (hs : a < l.sum) :
    Calls Try.prog 56 #[v, .int .i64 a] w fun e w' => e = .returned (.tuple #[.int .i64 (grpG l a : Nat), .int .i64 (frm l (grpG l a))]) ∧ w' = w := by
  obtain ⟨ao, cap, rfl, -, -⟩ := h.numS
  have HR := Lib.hid h
  have HB := Lib.hid (frm_bound h2)
  have HG := Lib.hid (fun (g : Nat) => grp_lt (g := g) (pos_of h2) h0 hs)
  have HS := Lib.hid (fun i (hi : i < l.length) => frm_succ (l := l) hi)
  have HG2 := Lib.hid (grp_spec l a h0 hs).1
  clear h h2 hs h0
  go_enter Try.func56, Try.ntmps56
  go_wp2_with fail
  go_loopw [4, 5] (fun v4 v5 wr => ∃ g : Nat, g ≤ grpG l a ∧ v4 = .int .i64 (g : Int) ∧ v5 = .int .i64 (frm l g) ∧ wr = w) (fun v _ _ => l.length - (intOf v).toNat)
  case atStart => exact ⟨0, Nat.zero_le _, rfl, rfl, rfl⟩
  case round =>
    obtain ⟨g, hg, rfl, rfl, rfl⟩ := hrel
    obtain ⟨q1, q2, q3, q4⟩ := HG.out g hg
    obtain ⟨b, o, rfl, -, -⟩ := HR.out.some_of (by rw [zv_length]; omega)
    have hc := HR.out.num_at q2
    have hb1 := HB.out (g + 1)
    have hb0 := HB.out g
    have hss := HS.out g q2
    have hglt : (g : Int) < (l.length : Nat) := by omega
    obtain ⟨f1, hf1⟩ : ∃ f1, f1 = frm l (g + 1) := ⟨_, rfl⟩
    rw [← hf1] at hss hb1 q3 q4
    have HF1 := Lib.hid hf1
    have H3 := Lib.hid q3
    have H4 := Lib.hid q4
    clear q1 q3 q4 hf1
    have hw : wrap64 (frm l g + l.getD g 0) = f1 := by unfold wrap64; omega
    generalize l.getD g 0 = x at *
    clear hss
    by_cases hq : f1 ≤ a
    · have H5 := Lib.hid (H3.out hq)
      have HWr := Lib.hid hw
      go_wp2_with fail
      go_roundw
      case rel => exact ⟨g + 1, H5.out, by go_num, by rw [← HF1.out]; first | rw [HWr.out] | rfl, by trivial⟩
      case measure => simp [intOf]; omega
    · obtain rfl := H4.out (by omega)
      go_wp2_with fail
      go_ret2
      exact ⟨rfl, rfl⟩
theorem cnt_take {ids : List Int} {id : Int} {i : Nat} (hi : i < ids.length) : cnt (ids.take (i + 1)) id = cnt (ids.take i) id + (if ids.getD i 0 < id then 1 else 0) := by
  rw [List.take_succ_eq_append_getElem hi]
  unfold cnt
  rw [List.filter_append, List.length_append, List.getD_eq_getElem?_getD, List.getElem?_eq_getElem hi, Option.getD_some]
  congr 1
  by_cases h : ids[i] < id
  · rw [if_pos h, List.filter_cons, if_pos (by simpa using h)]
    rfl
  · rw [if_neg h, List.filter_cons, if_neg (by simpa using h)]
    rfl
set_option maxRecDepth 100000 in
theorem find_any (vi vl : Value) (ids : List Int) (id : Int) (w : World) (h : Rd w vi (zv ids)) (hl : ids.length ≤ 1048576) :
    Calls Try.prog 26 #[.agg (shpL vi vl).toArray, .int .i64 id] w fun e w' => e = .returned (.tuple #[.int .i64 (cnt ids id : Nat), .bool (decide (id ∈ ids))]) ∧ Aft w w' := by
  obtain ⟨ao, cap, rfl, -, -⟩ := h.numS
  have HR := Lib.hid (fun (wx : World) (hx : Aft w wx) => h.grow hx)
  have HC := Lib.hid (fun (wx : World) (hx : Aft w wx) => contains_any _ id ids wx (h.grow hx) hl)
  have HS := Lib.hid (fun i (hi : i < ids.length) => cnt_take (id := id) hi)
  have HL := Lib.hid (Led.start w)
  clear h
  go_enter Try.func26, Try.ntmps26
  go_wp2_with (first | (refine wpList_boxO rfl 26 (.tmp 0) rfl (.agg (shpL (.slice ao ids.length cap) vl).toArray) rfl (.cells (shpL (.slice ao ids.length cap) vl).toArray 26) (box_shp _) ?_; intro w' aa gg zz; replace HL := Lib.hid (HL.out.alloc aa gg.out); clear aa gg zz; try simp only [List.nil_append, List.cons_append, List.set_cons_zero, List.set_cons_succ] at HL; have hi0 := shp_i (HL.out.get 0 rfl)))
  clear hi0
  go_loopw [4, 11] (fun v4 v11 wr => ∃ i : Nat, i ≤ ids.length ∧ v11 = .int .i64 (i : Int) ∧ v4 = .int .i64 (cnt (ids.take i) id : Nat) ∧ Led w wr [(w.heap.size, .cells (shpL (.slice ao ids.length cap) vl).toArray 26)]) (fun _ v _ => ids.length - (intOf v).toNat)
  case atStart => exact ⟨0, by omega, rfl, by simp [cnt], HL.out⟩
  case round =>
    clear HL
    obtain ⟨i, hi, rfl, rfl, hL⟩ := hrel
    have HL := Lib.hid hL
    clear hL
    by_cases hlt : i < ids.length
    · have hlt' : (i : Int) < (ids.length : Nat) := by omega
      obtain ⟨b, o, rfl, -, -⟩ := (HR.out _ HL.out.aft).some_of (by rw [zv_length]; omega)
      have hc := (HR.out _ HL.out.aft).num_at hlt
      have hcn := cnt_le (ids.take i) id
      rw [List.length_take] at hcn
      have hss := HS.out i hlt
      obtain ⟨f1, hf1⟩ : ∃ f1, f1 = cnt (ids.take (i + 1)) id := ⟨_, rfl⟩
      rw [← hf1] at hss
      have HF1 := Lib.hid hf1
      clear hf1
      generalize cnt (ids.take i) id = n at *
      generalize ids.getD i 0 = x at *
      by_cases hq : x < id
      · rw [if_pos hq] at hss
        have HE := Lib.hid hss
        clear hss
        go_wp2_with fail
        go_roundw
        case rel => exact ⟨i + 1, by omega, by go_num, by rw [← HF1.out, HE.out]; go_num, HL.out⟩
        case measure => simp [intOf]; omega
      · rw [if_neg hq, Nat.add_zero] at hss
        have HE := Lib.hid hss
        clear hss
        go_wp2_with fail
        go_roundw
        case rel => exact ⟨i + 1, by omega, by go_num, by rw [← HF1.out, HE.out], HL.out⟩
        case measure => simp [intOf]; omega
    · obtain rfl : i = ids.length := by omega
      have hlt' : ¬ ((ids.length : Nat) : Int) < (ids.length : Nat) := by omega
      have hi0 := shp_i (HL.out.get 0 rfl)
      rw [List.take_length]
      go_wp2_with fail
      refine (HC.out _ HL.out.aft).mono ?_
      rintro e w2 ⟨rfl, rfl⟩
      go_wp2_with fail
      go_ret2
      exact ⟨rfl, HL.out.aft⟩
set_option maxRecDepth 100000 in
set_option maxHeartbeats 1000000 in
theorem equalI_any (v u : Value) (xs ys : List Int) (w : World) (hx : Rd w v (zv xs)) (hy : Rd w u (zv ys)) (hl : xs.length ≤ 1048576) :
    Calls Try.prog 57 #[v, u] w fun e w' => e = .returned (.bool (decide (xs = ys))) ∧ Aft w w' := by
  obtain ⟨ao, cap, rfl, -, -⟩ := hx.numS
  obtain ⟨bo, dap, rfl, -, -⟩ := hy.numS
  have HX := Lib.hid (fun (wx : World) (ha : Aft w wx) => hx.grow ha)
  have HY := Lib.hid (fun (wx : World) (ha : Aft w wx) => hy.grow ha)
  obtain ⟨bq, hbq⟩ : ∃ bq, bq = decide (xs = ys) := ⟨_, rfl⟩
  have HB := Lib.hid hbq
  rw [← hbq]
  clear hx hy hbq
  go_enter Try.func57, Try.ntmps57
  by_cases hlen : xs.length = ys.length
  rotate_left
  · have HR := Lib.hid (show bq = false by rw [HB.out]; exact decide_eq_false (fun q => hlen (by rw [q])))
    rw [HR.out]
    have hlen' : ¬ ((xs.length : Nat) : Int) = (ys.length : Nat) := by omega
    go_wp2_with fail
    go_ret
    exact ⟨rfl, Aft.refl _⟩
  have HLn := Lib.hid hlen
  rw [← hlen]
  clear hlen
  go_wp2_with fail
  go_loopw [13] (fun v13 wr => ∃ i : Nat, i ≤ xs.length ∧ v13 = .int .i64 (i : Int) ∧ (∀ j, j < i → xs[j]? = ys[j]?) ∧ Aft w wr) (fun v _ => xs.length - (intOf v).toNat)
  case atStart => exact ⟨0, by omega, rfl, fun j hj => absurd hj (Nat.not_lt_zero _), Aft.refl _⟩
  case round =>
    obtain ⟨i, hi, rfl, hsm, hA⟩ := hrel
    have HA := Lib.hid hA
    have HSm := Lib.hid hsm
    clear hA hsm
    by_cases hlt : i < xs.length
    · have hlt' : (i : Int) < (xs.length : Nat) := by omega
      have hylt : i < ys.length := by rw [← HLn.out]; exact hlt
      obtain ⟨b1, o1, rfl, -, -⟩ := (HX.out _ HA.out).some_of (by rw [zv_length]; omega)
      obtain ⟨b2, o2, rfl, -, -⟩ := (HY.out _ HA.out).some_of (by rw [zv_length]; omega)
      have cx := fun u : Later wr.heap.size wr => (HX.out _ (Aft.trans HA.out u.h)).num_at hlt
      have hy0 := HY.out
      have cy := fun u : Later wr.heap.size wr => (hy0 _ (Aft.trans HA.out u.h)).num_at hylt
      have HXe := Lib.hid (show xs[i]? = some (xs.getD i 0) by rw [List.getD_eq_getElem?_getD, List.getElem?_eq_getElem hlt]; rfl)
      have HYe := Lib.hid (show ys[i]? = some (ys.getD i 0) by rw [List.getD_eq_getElem?_getD, List.getElem?_eq_getElem hylt]; rfl)
      generalize xs.getD i 0 = x at *
      generalize ys.getD i 0 = y at *
      clear hylt hy0
      have HDr := Lib.hid (Aft.trans HA.out (show Aft wr wr.drew from (Below.refl _ _).drew))
      by_cases hxy : x = y
      · subst hxy
        go_wp2_with (first | (refine wp_region_lex (fun wz => ∃ u : Later wr.heap.size wr, wz = u.w) (fun i => ([] : List Nat).contains i) 9 (by kernel_rfl) (by kernel_rfl) ⟨⟨wr.drew, (Below.refl _ _).drew⟩, rfl⟩ ?_))
        change wpLx _ _ _ _ _ _ _ _ _ wr.drew
        try simp only [Act.put]
        repeat (first | (refine lx_skipT (by go_big_quiet_skip; exact wpQuiet_nil trivial) (by kernel_rfl) ?_; simp only [Act.put, List.setIfInBounds_toArray, List.set_cons_succ, List.set_cons_zero]) | (refine lx_quietT rfl (by go_big_quiet_want; exact quiet_false (by assumption)) (by kernel_rfl) rfl ?_; intro Kx hKx; go_big_quiet_op; go_big_quiet_on))
        refine lx_done ?_
        go_wp2_with fail
        go_roundw
        case rel =>
          refine ⟨i + 1, by omega, by go_num, fun j hj => ?_, HDr.out⟩
          by_cases hji : j = i
          · subst hji
            rw [HXe.out, HYe.out]
          · exact HSm.out j (by omega)
        case measure => simp [intOf]; omega
      · have HR2 := Lib.hid (show bq = false by
          rw [HB.out]
          exact decide_eq_false (fun e => hxy (by have := HXe.out; rw [e, HYe.out] at this; exact (Option.some.inj this).symm)))
        have hxb : (x != y) = true := by simpa using hxy
        go_wp2_with (first | (refine wp_region_lex (fun wz => ∃ u : Later wr.heap.size wr, wz = u.w) (fun i => ([] : List Nat).contains i) 9 (by kernel_rfl) (by kernel_rfl) ⟨⟨wr.drew, (Below.refl _ _).drew⟩, rfl⟩ ?_))
        change wpLx _ _ _ _ _ _ _ _ _ wr.drew
        try simp only [Act.put]
        repeat (first | (refine lx_skipT (by go_big_quiet_skip; exact wpQuiet_nil trivial) (by kernel_rfl) ?_; simp only [Act.put, List.setIfInBounds_toArray, List.set_cons_succ, List.set_cons_zero]) | (refine lx_quietT rfl (by go_big_quiet_want; exact quiet_false (by assumption)) (by kernel_rfl) rfl ?_; intro Kx hKx; go_big_quiet_op; go_big_quiet_on))
        refine lx_done ?_
        go_wp2_with fail
        go_ret
        exact ⟨by rw [HR2.out]; rfl, HDr.out⟩
    · obtain rfl : i = xs.length := by omega
      have hlt' : ¬ ((xs.length : Nat) : Int) < (xs.length : Nat) := by omega
      have HR2 := Lib.hid (show bq = true by
        rw [HB.out, decide_eq_true_eq]
        exact List.ext_getElem? fun j => by
          by_cases hj : j < xs.length
          · exact HSm.out j hj
          · rw [List.getElem?_eq_none (by omega), List.getElem?_eq_none (by have := HLn.out; omega)])
      go_wp2_with fail
      go_ret
      exact ⟨by rw [HR2.out]; rfl, HA.out⟩
set_option maxRecDepth 100000 in
set_option maxHeartbeats 1000000 in
theorem sameInts_any (v u : Value) (xs ys : List Int) (w : World) (hx : Rd w v (zv xs)) (hy : Rd w u (zv ys)) (hl : xs.length ≤ 1048576) :
    Calls Try.prog 21 #[v, u] w fun e w' => e = .returned (.bool (decide (xs = ys))) ∧ Aft w w' := by
  obtain ⟨ao, cap, rfl, -, -⟩ := hx.numS
  obtain ⟨bo, dap, rfl, -, -⟩ := hy.numS
  have HX := Lib.hid (fun (wx : World) (ha : Aft w wx) => hx.grow ha)
  have HY := Lib.hid (fun (wx : World) (ha : Aft w wx) => hy.grow ha)
  obtain ⟨bq, hbq⟩ : ∃ bq, bq = decide (xs = ys) := ⟨_, rfl⟩
  have HB := Lib.hid hbq
  rw [← hbq]
  clear hx hy hbq
  go_enter Try.func21, Try.ntmps21
  by_cases hlen : xs.length = ys.length
  rotate_left
  · have HR := Lib.hid (show bq = false by rw [HB.out]; exact decide_eq_false (fun q => hlen (by rw [q])))
    rw [HR.out]
    have hlen' : ¬ ((xs.length : Nat) : Int) = (ys.length : Nat) := by omega
    go_wp2_with fail
    go_ret
    exact ⟨rfl, Aft.refl _⟩
  have HLn := Lib.hid hlen
  rw [← hlen]
  clear hlen
  go_wp2_with fail
  go_loopw [13] (fun v13 wr => ∃ i : Nat, i ≤ xs.length ∧ v13 = .int .i64 (i : Int) ∧ (∀ j, j < i → xs[j]? = ys[j]?) ∧ Aft w wr) (fun v _ => xs.length - (intOf v).toNat)
  case atStart => exact ⟨0, by omega, rfl, fun j hj => absurd hj (Nat.not_lt_zero _), Aft.refl _⟩
  case round =>
    obtain ⟨i, hi, rfl, hsm, hA⟩ := hrel
    have HA := Lib.hid hA
    have HSm := Lib.hid hsm
    clear hA hsm
    by_cases hlt : i < xs.length
    · have hlt' : (i : Int) < (xs.length : Nat) := by omega
      have hylt : i < ys.length := by rw [← HLn.out]; exact hlt
      obtain ⟨b1, o1, rfl, -, -⟩ := (HX.out _ HA.out).some_of (by rw [zv_length]; omega)
      obtain ⟨b2, o2, rfl, -, -⟩ := (HY.out _ HA.out).some_of (by rw [zv_length]; omega)
      have cx := fun u : Later wr.heap.size wr => (HX.out _ (Aft.trans HA.out u.h)).num_at hlt
      have hy0 := HY.out
      have cy := fun u : Later wr.heap.size wr => (hy0 _ (Aft.trans HA.out u.h)).num_at hylt
      have HXe := Lib.hid (show xs[i]? = some (xs.getD i 0) by rw [List.getD_eq_getElem?_getD, List.getElem?_eq_getElem hlt]; rfl)
      have HYe := Lib.hid (show ys[i]? = some (ys.getD i 0) by rw [List.getD_eq_getElem?_getD, List.getElem?_eq_getElem hylt]; rfl)
      generalize xs.getD i 0 = x at *
      generalize ys.getD i 0 = y at *
      clear hylt hy0
      have HDr := Lib.hid (Aft.trans HA.out (show Aft wr wr.drew from (Below.refl _ _).drew))
      by_cases hxy : x = y
      · subst hxy
        go_wp2_with (first | (refine wp_region_lex (fun wz => ∃ u : Later wr.heap.size wr, wz = u.w) (fun i => ([] : List Nat).contains i) 9 (by kernel_rfl) (by kernel_rfl) ⟨⟨wr.drew, (Below.refl _ _).drew⟩, rfl⟩ ?_))
        change wpLx _ _ _ _ _ _ _ _ _ wr.drew
        try simp only [Act.put]
        repeat (first | (refine lx_skipT (by go_big_quiet_skip; exact wpQuiet_nil trivial) (by kernel_rfl) ?_; simp only [Act.put, List.setIfInBounds_toArray, List.set_cons_succ, List.set_cons_zero]) | (refine lx_quietT rfl (by go_big_quiet_want; exact quiet_false (by assumption)) (by kernel_rfl) rfl ?_; intro Kx hKx; go_big_quiet_op; go_big_quiet_on))
        refine lx_done ?_
        go_wp2_with fail
        go_roundw
        case rel =>
          refine ⟨i + 1, by omega, by go_num, fun j hj => ?_, HDr.out⟩
          by_cases hji : j = i
          · subst hji
            rw [HXe.out, HYe.out]
          · exact HSm.out j (by omega)
        case measure => simp [intOf]; omega
      · have HR2 := Lib.hid (show bq = false by
          rw [HB.out]
          exact decide_eq_false (fun e => hxy (by have := HXe.out; rw [e, HYe.out] at this; exact (Option.some.inj this).symm)))
        have hxb : (x != y) = true := by simpa using hxy
        go_wp2_with (first | (refine wp_region_lex (fun wz => ∃ u : Later wr.heap.size wr, wz = u.w) (fun i => ([] : List Nat).contains i) 9 (by kernel_rfl) (by kernel_rfl) ⟨⟨wr.drew, (Below.refl _ _).drew⟩, rfl⟩ ?_))
        change wpLx _ _ _ _ _ _ _ _ _ wr.drew
        try simp only [Act.put]
        repeat (first | (refine lx_skipT (by go_big_quiet_skip; exact wpQuiet_nil trivial) (by kernel_rfl) ?_; simp only [Act.put, List.setIfInBounds_toArray, List.set_cons_succ, List.set_cons_zero]) | (refine lx_quietT rfl (by go_big_quiet_want; exact quiet_false (by assumption)) (by kernel_rfl) rfl ?_; intro Kx hKx; go_big_quiet_op; go_big_quiet_on))
        refine lx_done ?_
        go_wp2_with fail
        go_ret
        exact ⟨by rw [HR2.out]; rfl, HDr.out⟩
    · obtain rfl : i = xs.length := by omega
      have hlt' : ¬ ((xs.length : Nat) : Int) < (xs.length : Nat) := by omega
      have HR2 := Lib.hid (show bq = true by
        rw [HB.out, decide_eq_true_eq]
        exact List.ext_getElem? fun j => by
          by_cases hj : j < xs.length
          · exact HSm.out j hj
          · rw [List.getElem?_eq_none (by omega), List.getElem?_eq_none (by have := HLn.out; omega)])
      go_wp2_with fail
      go_ret
      exact ⟨by rw [HR2.out]; rfl, HA.out⟩
end Go.Proofs.Ytpnckphfjcnooaa
