/- plan.Same, plan.Sends; the law's few. -/
import Derived.Test.YtfgammcefaomeaaP6
import Derived.Test.YtfgammcefaomeaaB5
import Derived.Test.YtfgammcefaomeaaB3
namespace Go.Proofs.Ytfgammcefaomeaa
open Go Go.RowKit
set_option linter.unusedSimpArgs false
theorem stp_ext {x y : Stp} (h0 : x.nd = y.nd) (h1 : x.fr = y.fr) (h2 : x.sd = y.sd) : x = y := by
  cases x
  cases y
  simp only at h0 h1 h2
  subst h0 h1 h2
  rfl
instance : DecidableEq Stp := fun x y => if h : x.nd = y.nd ∧ x.fr = y.fr ∧ x.sd = y.sd then .isTrue (stp_ext h.1 h.2.1 h.2.2) else .isFalse fun q => h (by subst q; exact ⟨rfl, rfl, rfl⟩)
theorem stp_dec {x y : Stp} (h0 : x.nd = y.nd) (h1 : x.fr = y.fr) : decide (x.sd = y.sd) = decide (x = y) := by
  by_cases h : x.sd = y.sd
  · rw [decide_eq_true h, decide_eq_true (stp_ext h0 h1 h)]
  · rw [decide_eq_false h, decide_eq_false (fun q => h (by rw [q]))]
theorem st_at {ps : List (Stp × Value)} {i : Nat} (h : i < ps.length) : (ps.map Prod.fst)[i]? = some (ps.getD i stP).1 := by
  rw [List.getElem?_map, List.getD_eq_getElem?_getD, List.getElem?_eq_getElem h]
  rfl
set_option maxRecDepth 100000 in
set_option maxHeartbeats 4000000 in
theorem sameS1_any (x y : Stp) (kx ky : Value) (w : World) (hx : Rd w kx (zv x.sd)) (hy : Rd w ky (zv y.sd)) :
    Calls Try.prog 48 #[.agg (stR x.nd x.fr kx).toArray, .agg (stR y.nd y.fr ky).toArray] w fun e w' => e = .returned (.bool (decide (x = y))) ∧ Aft w w' := by
  obtain ⟨ka, kc, rfl, hk1, hk2⟩ := hx.numS
  obtain ⟨la, lc, rfl, -, -⟩ := hy.numS
  have HEq := Lib.hid (fun (wx : World) (ha : Aft w wx) => equalW_any _ _ x.sd y.sd wx (hx.grow ha) (hy.grow ha) (by omega))
  have HL := Lib.hid (Led.start w)
  clear hx hy hk1 hk2
  by_cases h : x.nd = y.nd
  · have E0 := Lib.hid h
    clear h
    by_cases h : x.fr = y.fr
    · have E1 := Lib.hid h
      clear h
      go_enter Try.func48, Try.ntmps48
      go_wp2_with (first | (refine wpList_boxO rfl 40 (.tmp 0) rfl (.agg (stR x.nd x.fr (.slice ka x.sd.length kc)).toArray) rfl (.cells (stR x.nd x.fr (.slice ka x.sd.length kc)).toArray 40) (fun w => rfl) ?_; intro w1 aa gg zz; replace HL := Lib.hid (HL.out.alloc aa gg.out); clear aa gg zz; try simp only [List.nil_append, List.cons_append, List.set_cons_zero, List.set_cons_succ] at HL) | (refine wpList_boxO rfl 40 (.tmp 1) rfl (.agg (stR y.nd y.fr (.slice la y.sd.length lc)).toArray) rfl (.cells (stR y.nd y.fr (.slice la y.sd.length lc)).toArray 40) (fun w => rfl) ?_; intro w2 aa gg zz; replace HL := Lib.hid (HL.out.alloc aa gg.out); clear aa gg zz; try simp only [List.nil_append, List.cons_append, List.set_cons_zero, List.set_cons_succ] at HL; have c0 := cell_part (n := 0) (HL.out.get 0 rfl) rfl; have d0 := cell_part (n := 0) (HL.out.get 1 rfl) rfl; rw [← E0.out] at d0; have c1 := cell_part (n := 1) (HL.out.get 0 rfl) rfl; have d1 := cell_part (n := 1) (HL.out.get 1 rfl) rfl; rw [← E1.out] at d1; have c2 := cell_part (n := 2) (HL.out.get 0 rfl) rfl; have d2 := cell_part (n := 2) (HL.out.get 1 rfl) rfl))
      refine (HEq.out _ HL.out.aft).mono ?_
      rintro e w2 ⟨rfl, h2⟩
      replace HL := Lib.hid (HL.out.call h2)
      clear h2
      go_wp2_with fail
      go_ret
      exact ⟨by rw [← stp_dec E0.out E1.out]; rfl, HL.out.aft⟩
    · have hb : (x.fr == y.fr) = false := by simp [h]
      have hb2 : (x.fr != y.fr) = true := by simp [h]
      have HNe := Lib.hid (show decide (x = y) = false from decide_eq_false fun q => h (by rw [q]))
      go_enter Try.func48, Try.ntmps48
      go_wp2_with (first | (refine wpList_boxO rfl 40 (.tmp 0) rfl (.agg (stR x.nd x.fr (.slice ka x.sd.length kc)).toArray) rfl (.cells (stR x.nd x.fr (.slice ka x.sd.length kc)).toArray 40) (fun w => rfl) ?_; intro w1 aa gg zz; replace HL := Lib.hid (HL.out.alloc aa gg.out); clear aa gg zz; try simp only [List.nil_append, List.cons_append, List.set_cons_zero, List.set_cons_succ] at HL) | (refine wpList_boxO rfl 40 (.tmp 1) rfl (.agg (stR y.nd y.fr (.slice la y.sd.length lc)).toArray) rfl (.cells (stR y.nd y.fr (.slice la y.sd.length lc)).toArray 40) (fun w => rfl) ?_; intro w2 aa gg zz; replace HL := Lib.hid (HL.out.alloc aa gg.out); clear aa gg zz; try simp only [List.nil_append, List.cons_append, List.set_cons_zero, List.set_cons_succ] at HL; have c0 := cell_part (n := 0) (HL.out.get 0 rfl) rfl; have d0 := cell_part (n := 0) (HL.out.get 1 rfl) rfl; rw [← E0.out] at d0; have c1 := cell_part (n := 1) (HL.out.get 0 rfl) rfl; have d1 := cell_part (n := 1) (HL.out.get 1 rfl) rfl))
      go_ret
      exact ⟨by rw [HNe.out]; rfl, HL.out.aft⟩
  · have hb : (x.nd == y.nd) = false := by simp [h]
    have hb2 : (x.nd != y.nd) = true := by simp [h]
    have HNe := Lib.hid (show decide (x = y) = false from decide_eq_false fun q => h (by rw [q]))
    go_enter Try.func48, Try.ntmps48
    go_wp2_with (first | (refine wpList_boxO rfl 40 (.tmp 0) rfl (.agg (stR x.nd x.fr (.slice ka x.sd.length kc)).toArray) rfl (.cells (stR x.nd x.fr (.slice ka x.sd.length kc)).toArray 40) (fun w => rfl) ?_; intro w1 aa gg zz; replace HL := Lib.hid (HL.out.alloc aa gg.out); clear aa gg zz; try simp only [List.nil_append, List.cons_append, List.set_cons_zero, List.set_cons_succ] at HL) | (refine wpList_boxO rfl 40 (.tmp 1) rfl (.agg (stR y.nd y.fr (.slice la y.sd.length lc)).toArray) rfl (.cells (stR y.nd y.fr (.slice la y.sd.length lc)).toArray 40) (fun w => rfl) ?_; intro w2 aa gg zz; replace HL := Lib.hid (HL.out.alloc aa gg.out); clear aa gg zz; try simp only [List.nil_append, List.cons_append, List.set_cons_zero, List.set_cons_succ] at HL; have c0 := cell_part (n := 0) (HL.out.get 0 rfl) rfl; have d0 := cell_part (n := 0) (HL.out.get 1 rfl) rfl))
    go_ret
    exact ⟨by rw [HNe.out]; rfl, HL.out.aft⟩
set_option maxRecDepth 100000 in
set_option maxHeartbeats 4000000 in
theorem equalSt_any (v u : Value) (ps qs : List (Stp × Value)) (w : World) (hx : RdSt w v ps) (hy : RdSt w u qs) (hp : ps.length ≤ 1000000) :
    Calls Try.prog 47 #[v, u, .func (.func 48) #[] #[]] w fun e w' => e = .returned (.bool (decide (ps.map Prod.fst = qs.map Prod.fst))) ∧ Aft w w' := by
  have HX := Lib.hid hx
  have HY := Lib.hid hy
  have HP := Lib.hid hp
  obtain ⟨ao, cap, rfl, -, -⟩ := hx.shape
  obtain ⟨bo, dap, rfl, -, -⟩ := hy.shape
  obtain ⟨bq, hbq⟩ : ∃ bq, bq = decide (ps.map Prod.fst = qs.map Prod.fst) := ⟨_, rfl⟩
  have HB := Lib.hid hbq
  rw [← hbq]
  clear hx hy hbq hp
  go_enter Try.func47, Try.ntmps47
  by_cases hlen : ps.length = qs.length
  rotate_left
  · have HR := Lib.hid (show bq = false by rw [HB.out]; exact decide_eq_false (fun q => hlen (by have := congrArg List.length q; simpa using this)))
    rw [HR.out]
    have hlen' : ¬ ((ps.length : Nat) : Int) = (qs.length : Nat) := by omega
    go_wp2_with fail
    go_ret
    exact ⟨rfl, Aft.refl _⟩
  have HLn := Lib.hid hlen
  rw [← hlen]
  clear hlen
  go_wp2_with fail
  go_loopw [17] (fun v wr => ∃ i : Nat, i ≤ ps.length ∧ v = .int .i64 (i : Int) ∧ (∀ j, j < i → (ps.map Prod.fst)[j]? = (qs.map Prod.fst)[j]?) ∧ Aft w wr) (fun v _ => ps.length - (intOf v).toNat)
  case atStart => exact ⟨0, by omega, rfl, fun j hj => absurd hj (Nat.not_lt_zero _), Aft.refl _⟩
  case round =>
    obtain ⟨i, hi, rfl, hsm, hA⟩ := hrel
    have HL := Lib.hid ((Led.start w).call hA)
    have HSm := Lib.hid hsm
    have hp6 := HP.out
    clear hsm
    by_cases hlt : i < ps.length
    · have hlt' : (i : Int) < (ps.length : Nat) := by omega
      have hylt : i < qs.length := by rw [← HLn.out]; exact hlt
      obtain ⟨b1, o1, c1, he, hrx⟩ := HX.out.rng hlt
      injection he with he1 he2 he3
      subst he1 he3
      obtain ⟨b2, o2, c2, he, hry⟩ := HY.out.rng hylt
      injection he with he1 he4 he3
      subst he1 he3
      have HRx := Lib.hid hrx
      have HRy := Lib.hid hry
      have hkx := HX.out.kid _ (stP_mem hlt)
      have hky := HY.out.kid _ (stP_mem hylt)
      have HXe := Lib.hid (st_at hlt)
      have HYe := Lib.hid (st_at hylt)
      generalize ps.getD i stP = p at *
      generalize qs.getD i stP = q at *
      obtain ⟨x, kx⟩ := p
      obtain ⟨y, ky⟩ := q
      dsimp only at HRx HRy hkx hky HXe HYe
      obtain ⟨ka, kc, rfl, hk1, hk2⟩ := hkx.numS
      obtain ⟨la, lc, rfl, -, -⟩ := hky.numS
      have HRx2 := Lib.hid (HRx.out wr HL.out.aft)
      have HEq := Lib.hid (fun (wx : World) (ha : Aft w wx) => sameS1_any x y _ _ wx (hkx.grow ha) (hky.grow ha))
      clear hylt he2 he4 hrx hry hkx hky hk1 hk2 HRx hA
      go_wp2_with (first | (refine wpList_dstT 21 rfl ?_; refine wpList_load_mid2 (by kernel_rfl) 40 (.tmp 20) rfl _ _ rfl (stR x.nd x.fr (.slice ka x.sd.length kc)) HRx2.out _ Try.underlying40 rfl (st_info2 _ _ _) ?_) | (refine wpList_allocO rfl 40 rfl (.cells (stR 0 0 (.slice none 0 0)).toArray 40) alloc_st ?_; intro w' aa gg zz; replace HL := Lib.hid (HL.out.alloc aa gg.out); clear aa gg zz; try simp only [List.nil_append, List.cons_append, List.set_cons_zero, List.set_cons_succ] at HL) | (refine wpList_store_rowZ rfl 40 (.tmp 8) (.tmp 21) rfl _ (stR x.nd x.fr (.slice ka x.sd.length kc)).toArray rfl rfl _ _ (HL.out.get 0 rfl) (st_info _ _ _) rfl (all_one stR_one) ?_; intro w' b1 b2 b3; replace HL := Lib.hid (HL.out.store 0 rfl b1 b2 b3); clear b1 b2 b3; try simp only [List.nil_append, List.cons_append, List.set_cons_zero, List.set_cons_succ] at HL; have HRy2 := Lib.hid (HRy.out w' HL.out.aft)) | (refine wpList_dstT 25 rfl ?_; refine wpList_load_mid2 (by kernel_rfl) 40 (.tmp 24) rfl _ _ rfl (stR y.nd y.fr (.slice la y.sd.length lc)) HRy2.out _ Try.underlying40 rfl (st_info2 _ _ _) ?_) | (refine wpList_store_rowZ rfl 40 (.tmp 9) (.tmp 25) rfl _ (stR y.nd y.fr (.slice la y.sd.length lc)).toArray rfl rfl _ _ (HL.out.get 1 rfl) (st_info _ _ _) rfl (all_one stR_one) ?_; intro w' b1 b2 b3; replace HL := Lib.hid (HL.out.store 1 rfl b1 b2 b3); clear b1 b2 b3; try simp only [List.nil_append, List.cons_append, List.set_cons_zero, List.set_cons_succ] at HL) | (refine wpList_dstT 27 rfl ?_; refine wpList_load_rowG (by kernel_rfl) 40 (.tmp 8) rfl _ rfl _ _ _ _ (HL.out.get 0 rfl) Try.underlying40 rfl (st_info _ _ _) ?_) | (refine wpList_dstT 28 rfl ?_; refine wpList_load_rowG (by kernel_rfl) 40 (.tmp 9) rfl _ rfl _ _ _ _ (HL.out.get 1 rfl) Try.underlying40 rfl (st_info _ _ _) ?_))
      refine (HEq.out _ HL.out.aft).mono ?_
      rintro e w2 ⟨rfl, h2⟩
      replace HL := Lib.hid (HL.out.call h2)
      clear h2
      by_cases hxy : x = y
      · rw [decide_eq_true hxy]
        have HEx := Lib.hid hxy
        clear hxy
        go_wp2_with fail
        go_roundw
        case rel =>
          refine ⟨i + 1, by omega, by go_num, fun j hj => ?_, HL.out.aft⟩
          by_cases hji : j = i
          · subst hji
            rw [HXe.out, HYe.out, HEx.out]
          · exact HSm.out j (by omega)
        case measure => simp [intOf]; omega
      · rw [decide_eq_false hxy]
        have HR2 := Lib.hid (show bq = false by
          rw [HB.out]
          exact decide_eq_false (fun e => hxy (by have h := HXe.out; rw [e, HYe.out] at h; exact (Option.some.inj h).symm)))
        clear hxy
        go_wp2_with fail
        go_ret
        exact ⟨by rw [HR2.out]; rfl, HL.out.aft⟩
    · obtain rfl : i = ps.length := by omega
      have hlt' : ¬ ((ps.length : Nat) : Int) < (ps.length : Nat) := by omega
      have HR := Lib.hid (show bq = true by
        rw [HB.out]
        refine decide_eq_true (List.ext_getElem? fun j => ?_)
        by_cases hj : j < ps.length
        · exact HSm.out j hj
        · rw [List.getElem?_eq_none (by rw [List.length_map]; omega), List.getElem?_eq_none (by rw [List.length_map, ← HLn.out]; omega)])
      go_wp2_with fail
      go_ret
      exact ⟨by rw [HR.out]; rfl, HL.out.aft⟩
set_option maxRecDepth 100000 in
set_option maxHeartbeats 4000000 in
theorem psame_any (vk vs uk us : Value) (k k' : List Int) (ps qs : List (Stp × Value)) (w : World) (hk : Rd w vk (zv k)) (hs : RdSt w vs ps) (hk' : Rd w uk (zv k')) (hs' : RdSt w us qs) (hp : ps.length ≤ 1000000) :
    Calls Try.prog 22 #[.agg (plR vk vs).toArray, .agg (plR uk us).toArray] w fun e w' => e = .returned (.bool (decide (k = k' ∧ ps.map Prod.fst = qs.map Prod.fst))) ∧ Aft w w' := by
  have HE1 := Lib.hid (fun (wx : World) (ha : Aft w wx) => equalW_any vk uk k k' wx (hk.grow ha) (hk'.grow ha) (rd_len hk))
  have HE2 := Lib.hid (fun (wx : World) (ha : Aft w wx) => equalSt_any vs us ps qs wx (hs.aft ha) (hs'.aft ha) hp)
  obtain ⟨ao, cap, rfl, -, -⟩ := hk.numS
  obtain ⟨bo, dap, rfl, -⟩ := hs.shape
  obtain ⟨a1, cap1, rfl, -, -⟩ := hk'.numS
  obtain ⟨b1, dap1, rfl, -⟩ := hs'.shape
  obtain ⟨bq, hbq⟩ : ∃ bq, bq = decide (k = k' ∧ ps.map Prod.fst = qs.map Prod.fst) := ⟨_, rfl⟩
  have HB := Lib.hid hbq
  rw [← hbq]
  have HL := Lib.hid (Led.start w)
  clear hk hs hk' hs' hbq hp
  go_enter Try.func22, Try.ntmps22
  go_wp2_with (first | (refine wpList_boxO rfl 30 (.tmp 0) rfl (.agg (plR (.slice ao k.length cap) (.slice bo ps.length dap)).toArray) rfl (.cells (plR (.slice ao k.length cap) (.slice bo ps.length dap)).toArray 30) (fun w => rfl) ?_; intro wA aa gg zz; replace HL := Lib.hid (HL.out.alloc aa gg.out); clear aa gg zz; try simp only [List.nil_append, List.cons_append, List.set_cons_zero, List.set_cons_succ] at HL) | (refine wpList_boxO rfl 30 (.tmp 1) rfl (.agg (plR (.slice a1 k'.length cap1) (.slice b1 qs.length dap1)).toArray) rfl (.cells (plR (.slice a1 k'.length cap1) (.slice b1 qs.length dap1)).toArray 30) (fun w => rfl) ?_; intro wB aa gg zz; replace HL := Lib.hid (HL.out.alloc aa gg.out); clear aa gg zz; try simp only [List.nil_append, List.cons_append, List.set_cons_zero, List.set_cons_succ] at HL; have hA := cell_part (n := 0) (HL.out.get 0 rfl) rfl; have hB := cell_part (n := 0) (HL.out.get 1 rfl) rfl))
  refine (HE1.out _ HL.out.aft).mono ?_
  rintro e w2 ⟨rfl, h2⟩
  replace HL := Lib.hid (HL.out.call h2)
  clear hA hB h2 HE1
  by_cases h1 : k = k'
  · rw [decide_eq_true h1]
    have hC := cell_part (n := 1) (HL.out.get 0 rfl) rfl
    have hD := cell_part (n := 1) (HL.out.get 1 rfl) rfl
    have HD := Lib.hid (show decide (k = k' ∧ ps.map Prod.fst = qs.map Prod.fst) = decide (ps.map Prod.fst = qs.map Prod.fst) from decide_eq_decide.2 ⟨fun q => q.2, fun q => ⟨h1, q⟩⟩)
    clear h1
    go_wp2_with fail
    refine (HE2.out _ HL.out.aft).mono ?_
    rintro e w3 ⟨rfl, h3⟩
    go_wp2_with fail
    go_ret
    exact ⟨by rw [HB.out, HD.out]; rfl, Aft.trans HL.out.aft h3⟩
  · rw [decide_eq_false h1]
    have HD := Lib.hid (show decide (k = k' ∧ ps.map Prod.fst = qs.map Prod.fst) = false from decide_eq_false fun q => h1 q.1)
    clear h1
    go_wp2_with fail
    go_ret
    exact ⟨by rw [HB.out, HD.out]; rfl, HL.out.aft⟩
/-- How many are sent to. -/
def sndL (ss : List Stp) : Int := (ss.map fun x => (x.sd.length : Int)).sum
set_option maxRecDepth 100000 in
set_option maxHeartbeats 4000000 in
theorem sends_any (vk vs : Value) (ps : List (Stp × Value)) (k : Nat) (ko : Option Addr) (kc : Nat) (hvk : vk = .slice ko k kc) (w : World) (hs : RdSt w vs ps) (hp : ps.length ≤ 1000000) (hd : ∀ p ∈ ps, p.1.sd.length ≤ 1000000) :
    Calls Try.prog 17 #[.agg (plR vk vs).toArray] w fun e w' => e = .returned (.int .i64 (sndL (ps.map Prod.fst))) ∧ Aft w w' := by
  subst hvk
  have HS := Lib.hid hs
  have HP := Lib.hid hp
  have HD := Lib.hid hd
  obtain ⟨bo, dap, rfl, -⟩ := hs.shape
  have HL := Lib.hid (Led.start w)
  clear hs hp hd
  have HT := Lib.hid (fun (i : Nat) (hi : i < ps.length) => show sndL ((ps.map Prod.fst).take (i + 1)) = sndL ((ps.map Prod.fst).take i) + ((ps.getD i stP).1.sd.length : Int) by
    have : (ps.map Prod.fst).take (i + 1) = (ps.map Prod.fst).take i ++ [(ps.getD i stP).1] := by
      rw [List.take_add_one, st_at hi]
      rfl
    rw [this]
    unfold sndL
    rw [List.map_append, List.sum_append]
    simp)
  have HBd := Lib.hid (show ∀ i, i ≤ ps.length → 0 ≤ sndL ((ps.map Prod.fst).take i) ∧ sndL ((ps.map Prod.fst).take i) ≤ (i : Int) * 1000000 by
    intro i
    induction i with
    | zero => intro _; rw [List.take_zero]; exact ⟨Int.le_refl _, Int.le_refl _⟩
    | succ i ih =>
      intro hi
      have h1 := ih (by omega)
      have h2 := HD.out _ (stP_mem (show i < ps.length by omega))
      rw [HT.out i (by omega)]
      omega)
  go_enter Try.func17, Try.ntmps17
  go_wp2_with (first | (refine wpList_boxO rfl 30 (.tmp 0) rfl (.agg (plR (.slice ko k kc) (.slice bo ps.length dap)).toArray) rfl (.cells (plR (.slice ko k kc) (.slice bo ps.length dap)).toArray 30) (fun w => rfl) ?_; intro wA aa gg zz; replace HL := Lib.hid (HL.out.alloc aa gg.out); clear aa gg zz; try simp only [List.nil_append, List.cons_append, List.set_cons_zero, List.set_cons_succ] at HL; have hB := cell_part (n := 1) (HL.out.get 0 rfl) rfl))
  clear hB
  go_loopw [2, 8] (fun v2 v8 wr => ∃ i : Nat, i ≤ ps.length ∧ v8 = .int .i64 (i : Int) ∧ v2 = .int .i64 (sndL ((ps.map Prod.fst).take i)) ∧ Led w wr [(w.heap.size, .cells (plR (.slice ko k kc) (.slice bo ps.length dap)).toArray 30)]) (fun _ v _ => ps.length - (intOf v).toNat)
  case atStart => exact ⟨0, Nat.zero_le _, rfl, rfl, HL.out⟩
  case round =>
    clear HL
    obtain ⟨i, hi, rfl, rfl, hL⟩ := hrel
    have HL := Lib.hid hL
    clear hL
    by_cases hlt : i < ps.length
    · have hlt' : (i : Int) < (ps.length : Nat) := by omega
      obtain ⟨b1, o1, c1, he, hrx⟩ := HS.out.rng hlt
      injection he with he1 he2 he3
      subst he1 he3
      have hrx := hrx wr HL.out.aft
      have hkx := HS.out.kid _ (stP_mem hlt)
      have HT1 := Lib.hid (HT.out i hlt)
      have hb1 := HBd.out i (by omega)
      have hb2 := HD.out _ (stP_mem hlt)
      have hp6 := HP.out
      generalize ps.getD i stP = p at *
      obtain ⟨x, kx⟩ := p
      dsimp only at hrx hkx HT1 hb2
      obtain ⟨ka, kc2, rfl, hk1, hk2⟩ := hkx.numS
      have HRx := Lib.hid hrx
      have hw : wrap64 (sndL ((ps.map Prod.fst).take i) + (x.sd.length : Int)) = sndL ((ps.map Prod.fst).take (i + 1)) := by
        rw [HT1.out]
        exact wrap64_mid (by omega) (by omega)
      have HW := Lib.hid hw
      clear hw
      generalize sndL ((ps.map Prod.fst).take i) = sn at *
      clear he2 hkx hk1 hk2 hrx hb1 hb2
      go_wp2_with (first | (refine wpList_dstT 11 rfl ?_; refine wpList_load_mid2 (by kernel_rfl) 40 (.tmp 10) rfl _ _ rfl (stR x.nd x.fr (.slice ka x.sd.length kc2)) HRx.out _ Try.underlying40 rfl (st_info2 _ _ _) ?_) | (refine wpList_allocO rfl 40 rfl (.cells (stR 0 0 (.slice none 0 0)).toArray 40) alloc_st ?_; intro w' aa gg zz; replace HL := Lib.hid (HL.out.alloc aa gg.out); clear aa gg zz; try simp only [List.nil_append, List.cons_append, List.set_cons_zero, List.set_cons_succ] at HL) | (refine wpList_store_rowZ rfl 40 (.tmp 4) (.tmp 11) rfl _ (stR x.nd x.fr (.slice ka x.sd.length kc2)).toArray rfl rfl _ _ (HL.out.get 1 rfl) (st_info _ _ _) rfl (all_one stR_one) ?_; intro w' b1 b2 b3; replace HL := Lib.hid (HL.out.store 1 rfl b1 b2 b3); clear b1 b2 b3; try simp only [List.nil_append, List.cons_append, List.set_cons_zero, List.set_cons_succ] at HL; have d2 := cell_part (n := 2) (HL.out.get 1 rfl) rfl))
      go_roundw
      case rel => exact ⟨i + 1, by omega, by go_num, congrArg (Value.int .i64) HW.out, HL.out.cut 1⟩
      case measure => simp [intOf]; omega
    · obtain rfl : i = ps.length := by omega
      have hlt' : ¬ ((ps.length : Nat) : Int) < (ps.length : Nat) := by omega
      have HE := Lib.hid (show sndL ((ps.map Prod.fst).take ps.length) = sndL (ps.map Prod.fst) by
        have e : (ps.map Prod.fst).length = ps.length := List.length_map ..
        rw [← e, List.take_length])
      generalize sndL ((ps.map Prod.fst).take ps.length) = sn at *
      go_wp2_with fail
      go_ret
      exact ⟨by rw [← HE.out]; rfl, HL.out.aft⟩
set_option maxRecDepth 100000 in
set_option maxHeartbeats 4000000 in
theorem few12_any (vi vl vt : Value) (ids : List Int) (ls : List (List Int)) (l : List Int) (w : World) (hi : Rd w vi (zv ids)) (hl : RdLs w vl ls) (ht : Rd w vt (zv l)) :
    Calls Try.prog 12 #[.agg (shpL vi vl).toArray, vt] w fun e w' => e = .returned (.bool (fewT ids ls && decide (ids.length ≤ 120) && decide (l.length ≤ 100))) ∧ Aft w w' := by
  have HF := Lib.hid (fun (wx : World) (ha : Aft w wx) => tfew_any vi vl ids ls wx (hi.grow ha) (hl.aft ha))
  obtain ⟨ao, cap, rfl, -, -⟩ := hi.numS
  obtain ⟨bo, dap, rfl, -⟩ := hl.shape
  obtain ⟨co, cap2, rfl, -, -⟩ := ht.numS
  obtain ⟨bq, hbq⟩ : ∃ bq, bq = (fewT ids ls && decide (ids.length ≤ 120) && decide (l.length ≤ 100)) := ⟨_, rfl⟩
  have HB := Lib.hid hbq
  rw [← hbq]
  have HL := Lib.hid (Led.start w)
  clear hi hl ht hbq
  go_enter Try.func12, Try.ntmps12
  go_wp2_with (first | (refine wpList_boxO rfl 25 (.tmp 0) rfl (.agg (shpL (.slice ao ids.length cap) (.slice bo ls.length dap)).toArray) rfl (.cells (shpL (.slice ao ids.length cap) (.slice bo ls.length dap)).toArray 25) (box_shp _) ?_; intro w' aa gg zz; replace HL := Lib.hid (HL.out.alloc aa gg.out); clear aa gg zz; try simp only [List.nil_append, List.cons_append, List.set_cons_zero, List.set_cons_succ] at HL) | (refine wpList_load_rowG (by kernel_rfl) 25 (.tmp 2) rfl _ rfl _ _ _ _ (HL.out.get 0 rfl) Try.underlying25 rfl (shp_info _ _) ?_))
  refine (HF.out _ HL.out.aft).mono ?_
  rintro e w2 ⟨rfl, h2⟩
  replace HL := Lib.hid (HL.out.call h2)
  clear h2 HF
  have hA := shp_i (HL.out.get 0 rfl)
  cases hf : fewT ids ls
  · have HR := Lib.hid (show bq = false by rw [HB.out, hf]; rfl)
    clear hf
    go_wp2_with fail
    go_ret
    exact ⟨by rw [HR.out]; rfl, HL.out.aft⟩
  · by_cases h1 : ids.length ≤ 120
    · have h1' : ((ids.length : Nat) : Int) ≤ 120 := by omega
      by_cases h2 : l.length ≤ 100
      · have h2' : ((l.length : Nat) : Int) ≤ 100 := by omega
        have HR := Lib.hid (show bq = true by rw [HB.out, hf, decide_eq_true h1, decide_eq_true h2]; rfl)
        clear hf
        go_wp2_with fail
        go_ret
        exact ⟨by rw [HR.out]; rfl, HL.out.aft⟩
      · have HD := Lib.hid (show decide (((l.length : Nat) : Int) ≤ 100) = false from decide_eq_false (by omega))
        have HR := Lib.hid (show bq = false by rw [HB.out, hf, decide_eq_true h1, decide_eq_false h2]; rfl)
        clear hf
        go_wp2_with fail
        go_ret
        exact ⟨by rw [HR.out, ← HD.out]; rfl, HL.out.aft⟩
    · have h1' : ¬ ((ids.length : Nat) : Int) ≤ 120 := by omega
      have HR := Lib.hid (show bq = false by rw [HB.out, hf, decide_eq_false h1]; rfl)
      clear hf
      go_wp2_with fail
      go_ret
      exact ⟨by rw [HR.out]; rfl, HL.out.aft⟩
end Go.Proofs.Ytfgammcefaomeaa
