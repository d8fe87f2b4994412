/- coterieref12.Same, walked. -/
import Derived.Test.YtfgammcefaomeaaP8
import Derived.Test.YtfgammcefaomeaaB5
namespace Go.Proofs.Ytfgammcefaomeaa
open Go Go.RowKit
set_option linter.unusedSimpArgs false
theorem take_eqG {α : Type} {a b : List α} (d : α) {i : Nat} (ha : i < a.length) (hb : i < b.length) : a.take (i + 1) = b.take (i + 1) ↔ a.take i = b.take i ∧ a.getD i d = b.getD i d := by
  rw [List.take_succ_eq_append_getElem ha, List.take_succ_eq_append_getElem hb, List.getD_eq_getElem?_getD, List.getElem?_eq_getElem ha, List.getD_eq_getElem?_getD, List.getElem?_eq_getElem hb, Option.getD_some, Option.getD_some]
  constructor
  · intro h
    have := List.append_inj h (by simp; omega)
    exact ⟨this.1, List.singleton_inj.1 this.2⟩
  · rintro ⟨h1, h2⟩
    rw [h1, h2]
theorem st_get {ps : List (Stp × Value)} {i : Nat} (h : i < ps.length) : (ps.map Prod.fst).getD i stP.1 = (ps.getD i stP).1 := by
  simp [List.getD_eq_getElem?_getD, List.getElem?_eq_getElem h]
theorem stp_eq {x y : Stp} : x = y ↔ x.nd = y.nd ∧ x.fr = y.fr ∧ x.sd = y.sd := by
  constructor
  · rintro rfl
    exact ⟨rfl, rfl, rfl⟩
  · obtain ⟨a, b, c⟩ := x
    obtain ⟨d, e, f⟩ := y
    rintro ⟨h1, h2, h3⟩
    dsimp only at h1 h2 h3
    rw [h1, h2, h3]
set_option maxRecDepth 100000 in
set_option maxHeartbeats 8000000 in
theorem rpsame_any (vk vs uk us : Value) (k k' : List Int) (ps qs : List (Stp × Value)) (w : World) (hk : Rd w vk (zv k)) (hs : RdSt w vs ps) (hk' : Rd w uk (zv k')) (hs' : RdSt w us qs) (hp : ps.length ≤ 1000000) :
    Calls Try.prog 23 #[.agg (plR vk vs).toArray, .agg (plR uk us).toArray] w fun e w' => e = .returned (.bool (decide (k = k' ∧ ps.map Prod.fst = qs.map Prod.fst))) ∧ Aft w w' := by
  have HE1 := Lib.hid (fun (wx : World) (ha : Aft w wx) => sameIntsW_any vk uk k k' wx (hk.grow ha) (hk'.grow ha) (rd_len hk))
  have HX := Lib.hid hs
  have HY := Lib.hid hs'
  have HP := Lib.hid hp
  obtain ⟨ao, cap, rfl, -, -⟩ := hk.numS
  obtain ⟨bo, dap, rfl, -⟩ := hs.shape
  obtain ⟨a1, cap1, rfl, -, -⟩ := hk'.numS
  obtain ⟨b1, dap1, rfl, -⟩ := hs'.shape
  obtain ⟨bq, hbq⟩ : ∃ bq, bq = decide (k = k' ∧ ps.map Prod.fst = qs.map Prod.fst) := ⟨_, rfl⟩
  have HB := Lib.hid hbq
  rw [← hbq]
  have HL := Lib.hid (Led.start w)
  clear hk hs hk' hs' hbq hp
  go_enter Try.func23, Try.ntmps23
  go_wp2_with (first | (refine wpList_dstT 2 rfl ?_; refine wpList_boxO rfl 30 (.tmp 0) rfl (.agg (plR (.slice ao k.length cap) (.slice bo ps.length dap)).toArray) rfl (.cells (plR (.slice ao k.length cap) (.slice bo ps.length dap)).toArray 30) (fun w => rfl) ?_; intro wA aa gg zz; replace HL := Lib.hid (HL.out.alloc aa gg.out); clear aa gg zz; try simp only [List.nil_append, List.cons_append, List.set_cons_zero, List.set_cons_succ] at HL) | (refine wpList_dstT 3 rfl ?_; refine wpList_boxO rfl 30 (.tmp 1) rfl (.agg (plR (.slice a1 k'.length cap1) (.slice b1 qs.length dap1)).toArray) rfl (.cells (plR (.slice a1 k'.length cap1) (.slice b1 qs.length dap1)).toArray 30) (fun w => rfl) ?_; intro wB aa gg zz; replace HL := Lib.hid (HL.out.alloc aa gg.out); clear aa gg zz; try simp only [List.nil_append, List.cons_append, List.set_cons_zero, List.set_cons_succ] at HL; have hA := cell_part (n := 0) (HL.out.get 0 rfl) rfl; have hB := cell_part (n := 0) (HL.out.get 1 rfl) rfl))
  obtain ⟨s1, hs1⟩ : ∃ s, s = wA.heap.size := ⟨_, rfl⟩
  rw [← hs1] at HL hB ⊢
  clear hs1
  refine (HE1.out _ HL.out.aft).mono ?_
  rintro e w2 ⟨rfl, h2⟩
  replace HL := Lib.hid (HL.out.call h2)
  clear hA hB h2 HE1
  by_cases h1 : k = k'
  rotate_left
  · rw [decide_eq_false h1]
    have HD := Lib.hid (show decide (k = k' ∧ ps.map Prod.fst = qs.map Prod.fst) = false from decide_eq_false fun q => h1 q.1)
    clear h1
    go_wp2_with fail
    go_ret
    exact ⟨by rw [HB.out, HD.out]; rfl, HL.out.aft⟩
  rw [decide_eq_true h1]
  have HD := Lib.hid (show bq = decide (ps.map Prod.fst = qs.map Prod.fst) from HB.out.trans (decide_eq_decide.2 ⟨fun q => q.2, fun q => ⟨h1, q⟩⟩))
  clear h1 HB
  have hC := cell_part (n := 1) (HL.out.get 0 rfl) rfl
  have hD := cell_part (n := 1) (HL.out.get 1 rfl) rfl
  by_cases hlen : qs.length = ps.length
  rotate_left
  · have HN := Lib.hid (show bq = false by rw [HD.out]; exact decide_eq_false fun q => hlen (by have := congrArg List.length q; simpa using this.symm))
    have hne : ((ps.length : Nat) : Int) ≠ (qs.length : Nat) := by omega
    go_wp2_with fail
    all_goals first | (go_ret; exact ⟨by rw [HN.out]; rfl, HL.out.aft⟩) | (exfalso; omega)
  have HLn := Lib.hid hlen
  rw [hlen] at HL hD ⊢
  clear hlen
  go_wp2_with fail
  clear hC hD
  go_loopw [26] (fun v26 wr => ∃ i : Nat, i ≤ ps.length ∧ v26 = .int .i64 (i : Int) ∧ (ps.map Prod.fst).take i = (qs.map Prod.fst).take i ∧ Led w wr [(w.heap.size, .cells (plR (.slice ao k.length cap) (.slice bo ps.length dap)).toArray 30), (s1, .cells (plR (.slice a1 k'.length cap1) (.slice b1 ps.length dap1)).toArray 30)]) (fun v _ => ps.length - (intOf v).toNat)
  case atStart => exact ⟨0, Nat.zero_le _, rfl, rfl, HL.out⟩
  case round =>
    clear HL
    obtain ⟨i, hi, rfl, hf, hL⟩ := hrel
    have HL := Lib.hid hL
    have HF := Lib.hid hf
    clear hL hf
    by_cases hlt : i < ps.length
    · have hlt' : (i : Int) < (ps.length : Nat) := by omega
      have hi9 : i ≤ 1000000 := by have := HP.out; omega
      have hylt : i < qs.length := by have := HLn.out; omega
      obtain ⟨p1, o1, c1, he, hrx⟩ := HX.out.rng hlt
      injection he with he1 he2 he3
      subst he1 he3
      obtain ⟨p2, o2, c2, he, hry⟩ := HY.out.rng hylt
      injection he with he1 he4 he3
      subst he1 he3
      obtain ⟨qa, qc, hkv, -, -⟩ := (HX.out.kid _ (stP_mem hlt)).numS
      obtain ⟨ra, rc, hrv, -, -⟩ := (HY.out.kid _ (stP_mem hylt)).numS
      have HKx := Lib.hid (HX.out.kid _ (stP_mem hlt))
      have HKy := Lib.hid (HY.out.kid _ (stP_mem hylt))
      have HIf := Lib.hid (take_eqG (a := ps.map Prod.fst) (b := qs.map Prod.fst) stP.1 (i := i) (by rw [List.length_map]; exact hlt) (by rw [List.length_map]; exact hylt))
      rw [st_get hlt, st_get hylt] at HIf
      rw [hkv] at HKx hrx
      rw [hrv] at HKy hry
      obtain ⟨x, hx⟩ : ∃ x, x = (ps.getD i stP).1 := ⟨_, rfl⟩
      obtain ⟨y, hy⟩ : ∃ y, y = (qs.getD i stP).1 := ⟨_, rfl⟩
      rw [← hx] at HKx hrx HIf
      rw [← hy] at HKy hry HIf
      have HRx := Lib.hid hrx
      have HRy := Lib.hid hry
      have HSi := Lib.hid (fun (wx : World) (ha : Aft w wx) => sameIntsW_any _ _ x.sd y.sd wx (HKx.out.grow ha) (HKy.out.grow ha) (rd_len HKx.out))
      have hC := cell_part (n := 1) (HL.out.get 0 rfl) rfl
      clear hx hy hkv hrv hrx hry he2 he4 hylt
      go_upto_region 8 with (first | (refine wpList_dstT 33 rfl ?_; refine wpList_load_mid2 (by kernel_rfl) 40 (.tmp 32) rfl _ _ rfl (stR x.nd x.fr (.slice qa x.sd.length qc)) (HRx.out _ HL.out.aft) _ Try.underlying40 rfl (st_info2 _ _ _) ?_) | (refine wpList_dstT 38 rfl ?_; refine wpList_load_mid2 (by kernel_rfl) 40 (.tmp 37) rfl _ _ rfl (stR y.nd y.fr (.slice ra y.sd.length rc)) (HRy.out _ HL.out.aft) _ Try.underlying40 rfl (st_info2 _ _ _) ?_) | (refine wpList_dstT 6 rfl ?_; refine wpList_allocO rfl 40 rfl (.cells (stR 0 0 (.slice none 0 0)).toArray 40) alloc_st ?_; intro wE aa gg zz; replace HL := Lib.hid (HL.out.alloc aa gg.out); clear aa gg zz hC; try simp only [List.nil_append, List.cons_append, List.set_cons_zero, List.set_cons_succ] at HL) | (refine wpList_dstT 7 rfl ?_; refine wpList_allocO rfl 40 rfl (.cells (stR 0 0 (.slice none 0 0)).toArray 40) alloc_st ?_; intro wG aa gg zz; replace HL := Lib.hid (HL.out.alloc aa gg.out); clear aa gg zz hD; try simp only [List.nil_append, List.cons_append, List.set_cons_zero, List.set_cons_succ] at HL) | (refine wpList_store_rowZ rfl 40 (.tmp 6) (.tmp 33) rfl _ (stR x.nd x.fr (.slice qa x.sd.length qc)).toArray rfl rfl _ _ (HL.out.get 2 rfl) (st_info _ _ _) rfl (all_one stR_one) ?_; intro wF b1 b2 b3; replace HL := Lib.hid (HL.out.store 2 rfl b1 b2 b3); clear b1 b2 b3; (try simp only [List.nil_append, List.cons_append, List.set_cons_zero, List.set_cons_succ] at HL); have hD := cell_part (n := 1) (HL.out.get 1 rfl) rfl) | (refine wpList_store_rowZ rfl 40 (.tmp 7) (.tmp 38) rfl _ (stR y.nd y.fr (.slice ra y.sd.length rc)).toArray rfl rfl _ _ (HL.out.get 3 rfl) (st_info _ _ _) rfl (all_one stR_one) ?_; intro wH b1 b2 b3; replace HL := Lib.hid (HL.out.store 3 rfl b1 b2 b3); clear b1 b2 b3; (try simp only [List.nil_append, List.cons_append, List.set_cons_zero, List.set_cons_succ] at HL)))
      have x0 := cell_part (n := 0) (HL.out.get 2 rfl) rfl
      have y0 := cell_part (n := 0) (HL.out.get 3 rfl) rfl
      have x1 := cell_part (n := 1) (HL.out.get 2 rfl) rfl
      have y1 := cell_part (n := 1) (HL.out.get 3 rfl) rfl
      have x2 := cell_part (n := 2) (HL.out.get 2 rfl) rfl
      have y2 := cell_part (n := 2) (HL.out.get 3 rfl) rfl
      have HNo := Lib.hid (fun (hne : ¬ x = y) => show bq = false by
        rw [HD.out]
        refine decide_eq_false fun q => hne (HIf.out.1 ?_).2
        rw [q])
      by_cases hn : x.nd = y.nd
      rotate_left
      · have HN := Lib.hid (HNo.out fun q => hn (by rw [q]))
        have hnb : (x.nd != y.nd) = true := by simpa using hn
        go_wp2_with fail
        go_ret
        exact ⟨by rw [HN.out]; rfl, HL.out.aft⟩
      have hnb : (x.nd != y.nd) = false := by simpa using hn
      by_cases hfr : x.fr = y.fr
      rotate_left
      · have HN := Lib.hid (HNo.out fun q => hfr (by rw [q]))
        have hfb : (x.fr != y.fr) = true := by simpa using hfr
        have HNn := Lib.hid hn
        clear hn
        go_wp2_with fail
        go_ret
        exact ⟨by rw [HN.out]; rfl, HL.out.aft⟩
      have hfb : (x.fr != y.fr) = false := by simpa using hfr
      have HNn := Lib.hid hn
      have HFr := Lib.hid hfr
      clear hn hfr
      go_wp2_with fail
      refine (HSi.out _ HL.out.aft).mono ?_
      rintro e w3 ⟨rfl, h3⟩
      clear x0 x1 x2 y0 y1 y2
      by_cases hsd : x.sd = y.sd
      rotate_left
      · have HN := Lib.hid (HNo.out fun q => hsd (by rw [q]))
        rw [decide_eq_false hsd]
        clear hsd
        go_wp2_with fail
        go_ret
        exact ⟨by rw [HN.out]; rfl, Aft.trans HL.out.aft h3⟩
      rw [decide_eq_true hsd]
      replace HL := Lib.hid (HL.out.call h3)
      have HE := Lib.hid (HIf.out.2 ⟨HF.out, stp_eq.2 ⟨HNn.out, HFr.out, hsd⟩⟩)
      clear hsd h3
      go_wp2_with fail
      go_roundw
      case rel => exact ⟨i + 1, by omega, by go_num, HE.out, HL.out.cut 2⟩
      case measure => simp [intOf]; omega
    · obtain rfl : i = ps.length := by omega
      have hlt' : ¬ ((ps.length : Nat) : Int) < (ps.length : Nat) := by omega
      have HT := Lib.hid (show bq = true by
        rw [HD.out]
        refine decide_eq_true ?_
        have := HF.out
        rwa [show ps.length = (ps.map Prod.fst).length by rw [List.length_map], List.take_length, show (ps.map Prod.fst).length = (qs.map Prod.fst).length by rw [List.length_map, List.length_map, HLn.out], List.take_length] at this)
      go_wp2_with fail
      go_ret
      exact ⟨by rw [HT.out]; rfl, HL.out.aft⟩
end Go.Proofs.Ytfgammcefaomeaa
