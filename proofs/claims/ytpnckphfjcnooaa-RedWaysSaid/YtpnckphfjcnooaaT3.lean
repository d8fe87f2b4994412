/- tree.Check. -/
import Derived.Test.YtpnckphfjcnooaaT2
namespace Go.Proofs.Ytpnckphfjcnooaa
open Go Go.RowKit
set_option linter.unusedSimpArgs false
theorem rise_adj : ∀ {ids : List Int}, Rise ids ↔ ∀ i, i + 1 < ids.length → ids.getD i 0 < ids.getD (i + 1) 0
  | [] => ⟨fun _ i hi => absurd hi (Nat.not_lt_zero _), fun _ => List.Pairwise.nil⟩
  | [x] => ⟨fun _ i hi => by simp at hi, fun _ => List.pairwise_singleton _ _⟩
  | x :: y :: ids => by
    have ih := rise_adj (ids := y :: ids)
    constructor
    · intro h i hi
      have hp := List.pairwise_cons.1 h
      cases i with
      | zero => exact hp.1 y (by simp)
      | succ i => exact ih.1 hp.2 i (by simpa using hi)
    · intro h
      have h2 : Rise (y :: ids) := ih.2 fun i hi => by simpa using h (i + 1) (by simpa using hi)
      refine List.pairwise_cons.2 ⟨fun z hz => ?_, h2⟩
      have h0 : x < y := by simpa using h 0 (by simp)
      rcases List.mem_cons.1 hz with rfl | hz
      · exact h0
      · have := (List.pairwise_cons.1 h2).1 z hz
        omega
theorem any_odd (l : List Int) : l.any oddB = !(l.all two3) := by
  rw [List.not_all_eq_any_not]
  rfl
theorem any_far {ids : List Int} : ids.any farB = true ↔ ¬ ∀ x ∈ ids, 0 ≤ x ∧ x ≤ 1048576 := by
  rw [List.any_eq_true]
  constructor
  · rintro ⟨x, hx, hf⟩ q
    have := q x hx
    have := of_decide_eq_true hf
    omega
  · intro h
    apply Classical.byContradiction
    intro q
    refine h fun x hx => ?_
    have hf : ¬ farB x = true := fun hf => q ⟨x, hx, hf⟩
    have : ¬ (x < 0 ∨ 1048576 < x) := fun hc => hf (decide_eq_true hc)
    omega
theorem chk_bad {ids : List Int} {ls : List (List Int)} (h : ¬ OkT ids ls) : chkT ids ls = 1 := if_neg h
/-- Few enough to be looked at. -/
structure Small (ids : List Int) (ls : List (List Int)) : Prop where
  fi : ids.length ≤ 1048576
  fl : ls.length ≤ 1048576
  fv : ∀ l : List Int, l ∈ ls → l.length ≤ 1048576
theorem drop_cons {α : Type} (ls : List (List α)) (k : Nat) (h : k < ls.length) : ls.drop k = ls.getD k [] :: ls.drop (k + 1) := by
  rw [List.drop_eq_getElem_cons h, List.getD_eq_getElem?_getD, List.getElem?_eq_getElem h]
  rfl
theorem getD_mem {α : Type} {ls : List (List α)} {k : Nat} (h : k < ls.length) : ls.getD k [] ∈ ls := by
  rw [List.getD_eq_getElem?_getD, List.getElem?_eq_getElem h]
  exact List.getElem_mem h
set_option maxRecDepth 100000 in
set_option maxHeartbeats 2000000 in
theorem tcheck_any (vi vl : Value) (ids : List Int) (ls : List (List Int)) (w : World) (hi : Rd w vi (zv ids)) (hl : RdLs w vl ls) (hs : Small ids ls) :
    Calls Try.prog 22 #[.agg (shpL vi vl).toArray] w fun e w' => e = .returned (.int .i64 (chkT ids ls)) ∧ Aft w w' := by
  obtain ⟨ao, cap, rfl, -, -⟩ := hi.numS
  obtain ⟨bo, dap, rfl, -⟩ := hl.shape
  have HI := Lib.hid (fun (wx : World) (hx : Aft w wx) => hi.grow hx)
  have HV := Lib.hid (fun (wx : World) (hx : Aft w wx) => hl.aft hx)
  have HS := Lib.hid hs
  have HF := Lib.hid (fun (wx : World) (hx : Aft w wx) => containsFar_any _ ids wx (hi.grow hx) hs.fi)
  have HL := Lib.hid (Led.start w)
  clear hi hl hs
  go_enter Try.func22, Try.ntmps22
  by_cases h1 : (1000 : Int) < (ids.length : Nat)
  · have HR := Lib.hid (show chkT ids ls = 1 from chk_bad fun q => by have := q.1.1; omega)
    rw [HR.out]
    go_wp2_with (first | (refine wpList_boxO rfl 26 (.tmp 0) rfl (.agg (shpL (.slice ao ids.length cap) (.slice bo ls.length dap)).toArray) rfl (.cells (shpL (.slice ao ids.length cap) (.slice bo ls.length dap)).toArray 26) (box_shp _) ?_; intro w' aa gg zz; replace HL := Lib.hid (HL.out.alloc aa gg.out); clear aa gg zz; try simp only [List.nil_append, List.cons_append, List.set_cons_zero, List.set_cons_succ] at HL; have hi0 := shp_i (HL.out.get 0 rfl)))
    go_ret
    exact ⟨rfl, HL.out.aft⟩
  go_wp2_with (first | (refine wpList_boxO rfl 26 (.tmp 0) rfl (.agg (shpL (.slice ao ids.length cap) (.slice bo ls.length dap)).toArray) rfl (.cells (shpL (.slice ao ids.length cap) (.slice bo ls.length dap)).toArray 26) (box_shp _) ?_; intro w' aa gg zz; replace HL := Lib.hid (HL.out.alloc aa gg.out); clear aa gg zz; try simp only [List.nil_append, List.cons_append, List.set_cons_zero, List.set_cons_succ] at HL; have hi0 := shp_i (HL.out.get 0 rfl)))
  refine (HF.out _ HL.out.aft).mono ?_
  rintro e w2 ⟨rfl, rfl⟩
  by_cases h2 : ids.any farB = true
  · have HR := Lib.hid (show chkT ids ls = 1 from chk_bad fun q => any_far.1 h2 q.1.2.1)
    rw [h2]
    go_wp2_with fail
    go_ret
    exact ⟨by rw [HR.out]; rfl, HL.out.aft⟩
  have hfar := Lib.hid (show ∀ x ∈ ids, 0 ≤ x ∧ x ≤ 1048576 from Classical.byContradiction fun q => h2 (any_far.2 q))
  rw [show ids.any farB = false by simpa using h2]
  have HLen := Lib.hid (show ids.length ≤ 1000 by omega)
  clear h2 HF
  go_wp2_with fail
  clear hi0
  go_loopw [21] (fun v21 wr => ∃ i : Nat, i ≤ ids.length ∧ v21 = .int .i64 (i : Int) ∧ (∀ j, j + 1 < i → ids.getD j 0 < ids.getD (j + 1) 0) ∧ Led w wr [(w.heap.size, .cells (shpL (.slice ao ids.length cap) (.slice bo ls.length dap)).toArray 26)]) (fun v _ => ids.length - (intOf v).toNat)
  case atStart => exact ⟨0, by omega, rfl, fun j hj => absurd hj (Nat.not_lt_zero _), HL.out⟩
  case round =>
    clear HL
    obtain ⟨i, hi, rfl, hrs, hL⟩ := hrel
    have HL := Lib.hid hL
    have HRs := Lib.hid hrs
    clear hL hrs
    by_cases hlt : i < ids.length
    · have hlt' : (i : Int) < (ids.length : Nat) := by omega
      have hi0 := fun u : Later wr.heap.size wr => shp_i (Aft.get u.h (HL.out.get 0 rfl))
      have HDr := Lib.hid (show Aft wr wr.drew from (Below.refl _ _).drew)
      by_cases h0 : i = 0
      · subst h0
        go_wp2_with (first | (refine wp_region_lex (fun wz => ∃ u : Later wr.heap.size wr, wz = u.w) (fun i => ([] : List Nat).contains i) 16 (by kernel_rfl) (by kernel_rfl) ⟨⟨wr.drew, (Below.refl _ _).drew⟩, rfl⟩ ?_))
        change wpLx _ _ _ _ _ _ _ _ _ wr.drew
        try simp only [Act.put]
        repeat (first | (refine lx_skipT (by go_big_quiet_skip; exact wpQuiet_nil trivial) (by kernel_rfl) ?_; simp only [Act.put, List.setIfInBounds_toArray, List.set_cons_succ, List.set_cons_zero]) | (refine lx_quietT rfl (by go_big_quiet_want; exact quiet_false (by assumption)) (by kernel_rfl) rfl ?_; intro Kx hKx; go_big_quiet_op; go_big_quiet_on))
        refine lx_done ?_
        clear hi0
        replace HL := Lib.hid (HL.out.call HDr.out)
        go_wp2_with fail
        go_roundw
        case rel => exact ⟨1, by omega, by go_num, fun j hj => by omega, HL.out⟩
        case measure => simp [intOf]; omega
      · obtain ⟨m, rfl⟩ : ∃ m, i = m + 1 := ⟨i - 1, by omega⟩
        obtain ⟨b, o, rfl, -, -⟩ := (HI.out _ HL.out.aft).some_of (by rw [zv_length]; omega)
        have hrd := HI.out
        have c0 := fun u : Later wr.heap.size wr => (hrd _ (Aft.trans HL.out.aft u.h)).num_at (i := m) (by omega)
        have c1 := fun u : Later wr.heap.size wr => (hrd _ (Aft.trans HL.out.aft u.h)).num_at hlt
        have hm0 : (0 : Int) < ((m + 1 : Nat) : Int) := by omega
        have hmd : decide (0 < m + 1) = true := decide_eq_true (by omega)
        have hmw : wrap64 (((m + 1 : Nat) : Int) - 1) = (m : Int) := by unfold wrap64; omega
        have hml : (m : Int) < (ids.length : Nat) := by omega
        have HQ := Lib.hid (show ids.getD m 0 < ids.getD (m + 1) 0 → ∀ j, j + 1 < m + 1 + 1 → ids.getD j 0 < ids.getD (j + 1) 0 from fun q j hj => by
          by_cases e : j = m
          · subst e; exact q
          · exact HRs.out j (by omega))
        have HN := Lib.hid (show ¬ ids.getD m 0 < ids.getD (m + 1) 0 → chkT ids ls = 1 from fun q => chk_bad fun z => q (rise_adj.1 z.1.2.2 m hlt))
        generalize ids.getD m 0 = x at *
        generalize ids.getD (m + 1) 0 = y at *
        clear hrd
        by_cases hxy : y ≤ x
        · have HR := Lib.hid (HN.out (by omega))
          have hyd : decide (y ≤ x) = true := decide_eq_true hxy
          go_wp2_with (first | (refine wp_region_lex (fun wz => ∃ u : Later wr.heap.size wr, wz = u.w) (fun i => ([] : List Nat).contains i) 16 (by kernel_rfl) (by kernel_rfl) ⟨⟨wr.drew, (Below.refl _ _).drew⟩, rfl⟩ ?_))
          change wpLx _ _ _ _ _ _ _ _ _ wr.drew
          try simp only [Act.put]
          repeat (first | (refine lx_skipT (by go_big_quiet_skip; exact wpQuiet_nil trivial) (by kernel_rfl) ?_; simp only [Act.put, List.setIfInBounds_toArray, List.set_cons_succ, List.set_cons_zero]) | (refine lx_quietT rfl (by go_big_quiet_want; exact quiet_false (by assumption)) (by kernel_rfl) rfl ?_; intro Kx hKx; go_big_quiet_op; go_big_quiet_on))
          refine lx_done ?_
          clear hi0 c0 c1
          replace HL := Lib.hid (HL.out.call HDr.out)
          go_wp2_with fail
          go_ret
          exact ⟨by rw [HR.out]; rfl, HL.out.aft⟩
        · have HR := Lib.hid (HQ.out (by omega))
          have hyd : decide (y ≤ x) = false := decide_eq_false hxy
          go_wp2_with (first | (refine wp_region_lex (fun wz => ∃ u : Later wr.heap.size wr, wz = u.w) (fun i => ([] : List Nat).contains i) 16 (by kernel_rfl) (by kernel_rfl) ⟨⟨wr.drew, (Below.refl _ _).drew⟩, rfl⟩ ?_))
          change wpLx _ _ _ _ _ _ _ _ _ wr.drew
          try simp only [Act.put]
          repeat (first | (refine lx_skipT (by go_big_quiet_skip; exact wpQuiet_nil trivial) (by kernel_rfl) ?_; simp only [Act.put, List.setIfInBounds_toArray, List.set_cons_succ, List.set_cons_zero]) | (refine lx_quietT rfl (by go_big_quiet_want; exact quiet_false (by assumption)) (by kernel_rfl) rfl ?_; intro Kx hKx; go_big_quiet_op; go_big_quiet_on))
          refine lx_done ?_
          clear hi0 c0 c1
          replace HL := Lib.hid (HL.out.call HDr.out)
          go_wp2_with fail
          go_roundw
          case rel => exact ⟨m + 1 + 1, by omega, by go_num, HR.out, HL.out⟩
          case measure => simp [intOf]; omega
    · obtain rfl : i = ids.length := by omega
      have hlt' : ¬ ((ids.length : Nat) : Int) < (ids.length : Nat) := by omega
      have HOk := Lib.hid (show okIds ids from ⟨HLen.out, hfar.out, rise_adj.2 fun j hj => HRs.out j hj⟩)
      have hi0 := shp_i (HL.out.get 0 rfl)
      have hl0 := shp_l (HL.out.get 0 rfl)
      have HRc := Lib.hid (show okLv (ids.length : Int) ls = false → chkT ids ls = 1 from fun q => chk_bad fun z => by have := z.2; rw [q] at this; cases this)
      have HRg := Lib.hid (show okLv (ids.length : Int) ls = true → chkT ids ls = 0 from fun q => chkT_zero.2 ⟨HOk.out, q⟩)
      have hn0 := HLen.out
      clear HRs hlt
      go_wp2_with fail
      clear hi0 hl0
      go_loopw [5, 47] (fun v5 v47 wr => ∃ k m : Nat, k ≤ ls.length ∧ v47 = .int .i64 (k : Int) ∧ v5 = .int .i64 (m : Int) ∧ okLv (ids.length : Int) ls = okLv (m : Int) (ls.drop k) ∧ m ≤ 1048576 ∧ Led w wr [(w.heap.size, .cells (shpL (.slice ao ids.length cap) (.slice bo ls.length dap)).toArray 26)]) (fun _ v _ => ls.length - (intOf v).toNat)
      case atStart => exact ⟨0, ids.length, by omega, rfl, rfl, by rw [List.drop_zero], by omega, HL.out⟩
      case round =>
        clear HL
        obtain ⟨k, m, hk, rfl, rfl, hok, hm, hL⟩ := hrel
        have HL := Lib.hid hL
        have HOkl := Lib.hid hok
        clear hL hok
        by_cases hlt : k < ls.length
        · have hlt' : (k : Int) < (ls.length : Nat) := by omega
          obtain ⟨g, o, cap', u, he, hc, hr⟩ := (HV.out _ HL.out.aft).cell hlt
          cases he
          have hcell := hc _ (Aft.refl _)
          have HStep := Lib.hid (show okLv (m : Int) (ls.drop k) = (decide (2 ≤ (m : Int)) && (ls.getD k []).all two3 && decide ((ls.getD k []).sum = (m : Int)) && okLv ((ls.getD k []).length : Int) (ls.drop (k + 1))) by rw [drop_cons ls k hlt]; rfl)
          have HLl := Lib.hid (HS.out.fv _ (getD_mem hlt))
          generalize ls.getD k [] = l at *
          obtain ⟨au, cu, rfl, -, -⟩ := hr.numS
          have HC := Lib.hid (containsOdd_any _ l wr hr HLl.out)
          have HSm := Lib.hid (fun q => tsum_any _ l wr hr q HLl.out)
          clear hc hr
          by_cases hm2 : m < 2
          · have HR := Lib.hid (show chkT ids ls = 1 from HRc.out (by rw [HOkl.out, HStep.out, decide_eq_false (by omega)]; rfl))
            have hm2' : (m : Int) < 2 := by omega
            go_wp2_with fail
            go_ret
            exact ⟨by rw [HR.out]; rfl, HL.out.aft⟩
          have hm2' : ¬ (m : Int) < 2 := by omega
          go_wp2_with fail
          refine HC.out.mono ?_
          rintro e w2 ⟨rfl, rfl⟩
          by_cases hodd : l.any oddB = true
          · have HR := Lib.hid (show chkT ids ls = 1 from HRc.out (by rw [any_odd] at hodd; rw [HOkl.out, HStep.out, show l.all two3 = false by simpa using hodd, Bool.and_false]; rfl))
            rw [hodd]
            go_wp2_with fail
            go_ret
            exact ⟨by rw [HR.out]; rfl, HL.out.aft⟩
          have hall := Lib.hid (show l.all two3 = true by rw [any_odd] at hodd; simpa using hodd)
          have HSm2 := Lib.hid (HSm.out (fun x hx => two3_iff.1 (List.all_eq_true.1 hall.out x hx)))
          rw [show l.any oddB = false by simpa using hodd]
          clear hodd HSm HC
          go_wp2_with fail
          refine HSm2.out.mono ?_
          rintro e w3 ⟨rfl, rfl⟩
          by_cases hsm : l.sum = (m : Int)
          · have HNx := Lib.hid (show okLv (ids.length : Int) ls = okLv (l.length : Int) (ls.drop (k + 1)) by rw [HOkl.out, HStep.out, hall.out, decide_eq_true hsm, decide_eq_true (by omega)]; rfl)
            have hll := HLl.out
            have hfl := HS.out.fl
            rw [hsm]
            clear hsm
            go_wp2_with fail
            go_roundw
            case rel => exact ⟨k + 1, l.length, by omega, by go_num, rfl, HNx.out, by omega, HL.out⟩
            case measure => simp [intOf]; omega
          · have HR := Lib.hid (show chkT ids ls = 1 from HRc.out (by rw [HOkl.out, HStep.out, decide_eq_false hsm, Bool.and_false]; rfl))
            go_wp2_with fail
            go_ret
            exact ⟨by rw [HR.out]; rfl, HL.out.aft⟩
        · obtain rfl : k = ls.length := by omega
          have hlt' : ¬ ((ls.length : Nat) : Int) < (ls.length : Nat) := by omega
          have HE := Lib.hid (show okLv (ids.length : Int) ls = decide ((m : Int) ≤ 1) by rw [HOkl.out, List.drop_length]; rfl)
          by_cases hm1 : (1 : Int) < (m : Int)
          · have HR := Lib.hid (show chkT ids ls = 1 from HRc.out (by rw [HE.out, decide_eq_false (by omega)]))
            go_wp2_with fail
            go_ret
            exact ⟨by rw [HR.out]; rfl, HL.out.aft⟩
          · have HR := Lib.hid (show chkT ids ls = 0 from HRg.out (by rw [HE.out, decide_eq_true (by omega)]))
            go_wp2_with fail
            go_ret
            exact ⟨by rw [HR.out]; rfl, HL.out.aft⟩
end Go.Proofs.Ytpnckphfjcnooaa
