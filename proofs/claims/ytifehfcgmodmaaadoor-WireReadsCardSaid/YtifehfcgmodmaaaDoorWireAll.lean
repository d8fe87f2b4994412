/- wire.Texts, End, the document's, and coterieref01.SameAll. -/
import Derived.Test.YtifehfcgmodmaaaDoorWireTexts
import Derived.Test.YtifehfcgmodmaaaDoorShaParts
namespace Go.Proofs.YtifehfcgmodmaaaDoor
open Go Go.RowKit
theorem OwnT.one {B : Nat} {l : List (List (BitVec 8))} {w : World} {vs : List Value} (h : ∀ j u, vs[j]? = some u → w.ownsRow B 5 1 u (bv (txt l j)).length (bv (txt l j))) : ∀ u ∈ vs, u.oneCell' = true := by
  intro u hu
  obtain ⟨i, hi⟩ := List.getElem?_of_mem hu
  obtain ⟨a, c, rfl⟩ := own_shape (h i u hi)
  rfl
set_option maxRecDepth 100000 in
set_option maxHeartbeats 2000000 in
theorem texts_any (vb : Value) (b : List (BitVec 8)) (p many : Int) (w : World) (hb : Rd w vb (bv b)) (hl : b.length ≤ 1099511627776) (hm : many ≤ 1048576) :
    Calls Tryd.prog 50 #[vb, .int .i64 p, .int .i64 many] w (TXSays (texts b p many) w) := by
  have HB := Lib.hid hb
  have HL := Lib.hid hl
  have hbl := bv_length b
  obtain ⟨ab, cb, rfl, -, -, -, -⟩ := hb
  rw [hbl] at HB ⊢
  clear hbl hl
  go_enter Tryd.func50, Tryd.ntmps50
  by_cases h1 : many < 0
  · have HE := Lib.hid (show texts b p many = ([], 0, 1) by unfold texts; rw [if_pos (.inl h1)])
    go_wp2_with fail
    go_ret3
    exact TXSays.none HE.out (Below.refl _ _)
  · by_cases h2 : p < 0
    · have HE := Lib.hid (show texts b p many = ([], 0, 1) by unfold texts; rw [if_pos (.inr (.inl h2))])
      go_wp2_with fail
      go_ret3
      exact TXSays.none HE.out (Below.refl _ _)
    · by_cases h3 : (b.length : Int) < p
      · have HE := Lib.hid (show texts b p many = ([], 0, 1) by unfold texts; rw [if_pos (.inr (.inr h3))])
        go_wp2_with fail
        go_ret3
        exact TXSays.none HE.out (Below.refl _ _)
      · have HE := Lib.hid (show texts b p many = textsGo b many.toNat p by unfold texts; rw [if_neg (by omega)])
        obtain ⟨M, rfl⟩ : ∃ M : Nat, many = (M : Int) := ⟨many.toNat, by omega⟩
        rw [Int.toNat_natCast] at HE
        have HM := Lib.hid (show M ≤ 1048576 by omega)
        clear hm
        go_wp2_with fail
        go_loopw [1, 2, 6] (fun v1 v2 v6 wr => ∃ (i : Nat) (q : Int) (l : List (List (BitVec 8))), i ≤ M ∧ v1 = .int .i64 q ∧ v2 = .int .i64 ((M : Int) - (i : Int)) ∧ textsGo b i p = (l, q, 0) ∧ OwnT w.heap.size v6 l wr ∧ Aft w wr) (fun _ v2 _ _ => (intOf v2).toNat)
        case atStart => exact ⟨0, p, [], by omega, rfl, by rw [show (M : Int) - ((0 : Nat) : Int) = M by omega], rfl, OwnT.nil _ _, Aft.refl _⟩
        case round =>
          obtain ⟨i, q, l, hi, rfl, rfl, hgo, hown, hbw⟩ := hrel
          have HG := Lib.hid hgo
          have HO := Lib.hid hown
          have HW := Lib.hid hbw
          obtain ⟨al, cl, rfl⟩ := hown.shape
          clear hgo hown hbw
          by_cases hlt : i < M
          · have hlt' : (0 : Int) < (M : Int) - (i : Int) := by omega
            have hM2 := HM.out
            obtain ⟨t, r, e, ht⟩ : ∃ t r e, takeText b q = (t, r, e) := ⟨_, _, _, rfl⟩
            have hT := takeText_any (.slice ab b.length cb) b q wr (HB.out.grow HW.out) HL.out
            rw [ht] at hT
            have HT := Lib.hid hT
            have HTk := Lib.hid ht
            clear hT ht
            go_wp2_with fail
            refine HT.out.mono ?_
            rintro e' w2 ⟨a2, c2, rfl, ho2, hb2⟩
            have HO2 := Lib.hid ho2
            have HA2 := Lib.hid (show Aft wr w2 from hb2)
            clear ho2 hb2
            by_cases he : e = 0
            · subst he
              have HSn := Lib.hid (textsGo_snoc i HG.out HTk.out)
              have hln := textsGo_len i HG.out
              obtain ⟨vs, p1, p2, p3⟩ := HO.out.below (Aft.trans HA2.out (Aft.alloc w2 (.cells #[.slice a2 (bv t).length c2] 25)))
              have P1 := Lib.hid p1
              have P2 := Lib.hid p2
              have P3 := Lib.hid p3
              have HU := Lib.hid (HO2.out.alloc (.cells #[.slice a2 (bv t).length c2] 25))
              have HRu := Lib.hid (Rd.of_own (World.ownsRow_lit (base := w2.heap.size) (e := 25) (size := 1) w2 #[.slice a2 (bv t).length c2] 1 (Nat.le_refl _) (by decide) rfl))
              have HWx := Lib.hid (show Aft w (w2.alloc (.cells #[.slice a2 (bv t).length c2] 25)) from Aft.trans HW.out (Aft.trans HA2.out (Aft.alloc _ _)))
              have HVl := Lib.hid (show vs.length ≤ 1048576 by rw [p2, hln]; omega)
              rw [← p2]
              clear p1 p2 p3 hln
              go_wp2_with ((at_builtin; refine wpList_append_rd rfl _ _ 22 rfl w.heap.size 25 (.slice none 0 0) 24 Tryd.underlying22 info_slice rfl (.slice al vs.length cl) (.slice (some ⟨w2.heap.size, 0, none⟩) 1 1) vs [.slice a2 (bv t).length c2] rfl rfl (by have h := P1.out; rw [← P2.out] at h; exact h) HRu.out (by intro u hu; simp at hu; subst hu; rfl) (by have := HVl.out; simp; omega) (by have := HVl.out; simp; omega) (Below.size HWx.out) ?_; intro v3 w3 k1 k2 k3; have HO3 := Lib.hid (OwnT.snoc (by have h := P1.out; rw [← P2.out] at h; exact h) P2.out P3.out (ownsRow_mono HU.out (Below.size HW.out)) k1 k2); have HB3 := Lib.hid (show Aft w w3 from HWx.out.grown k2 (Below.size HWx.out) (fun g hg => (own_lt P1.out (by rw [P2.out] at hg; exact hg)).1)); clear k1 k2 k3))
              go_roundw
              case rel => exact ⟨i + 1, r, l ++ [t], by omega, rfl, by go_num, HSn.out, HO3.out, HB3.out⟩
              case measure => simp [intOf]; omega
            · have HF := Lib.hid (textsGo_fail (M - i - 1) i HG.out HTk.out he)
              have HQ := Lib.hid (show texts b p (M : Int) = ([], 0, e) by rw [HE.out, ← HF.out, show i + (M - i - 1 + 1) = M by omega])
              go_wp2_with fail
              go_ret3
              exact TXSays.none HQ.out (Aft.trans HW.out HA2.out)
          · obtain rfl : i = M := by omega
            have hlt' : ¬ (0 : Int) < (i : Int) - (i : Int) := by omega
            go_wp2_with fail
            go_ret3
            refine ⟨al, cl, ?_, ?_, HW.out⟩ <;> rw [HE.out, HG.out]
            · rfl
            · exact HO.out.all
set_option maxRecDepth 100000 in
set_option maxHeartbeats 2000000 in
theorem refTexts_any (vb : Value) (b : List (BitVec 8)) (p many : Int) (w : World) (hb : Rd w vb (bv b)) (hl : b.length ≤ 1099511627776) (hm : many ≤ 1048576) :
    Calls Tryd.prog 54 #[vb, .int .i64 p, .int .i64 many] w (TXSays (texts b p many) w) := by
  have HB := Lib.hid hb
  have HL := Lib.hid hl
  have hbl := bv_length b
  obtain ⟨ab, cb, rfl, -, -, -, -⟩ := hb
  rw [hbl] at HB ⊢
  clear hbl hl
  go_enter Tryd.func54, Tryd.ntmps54
  go_wp2_with fail
  refine (place_any ab b.length cb p w).mono ?_
  rintro e w' ⟨rfl, rfl⟩
  by_cases h2 : 0 ≤ p ∧ p ≤ (b.length : Int)
  · rw [show plc p b.length = true from decide_eq_true h2]
    by_cases h1 : many < 0
    · have HE := Lib.hid (show texts b p many = ([], 0, 1) by unfold texts; rw [if_pos (.inl h1)])
      go_wp2_with fail
      go_ret3
      exact TXSays.none HE.out (Below.refl _ _)
    · have HE := Lib.hid (show texts b p many = textsGo b many.toNat p by unfold texts; rw [if_neg (by omega)])
      obtain ⟨M, rfl⟩ : ∃ M : Nat, many = (M : Int) := ⟨many.toNat, by omega⟩
      rw [Int.toNat_natCast] at HE
      have HM := Lib.hid (show M ≤ 1048576 by omega)
      clear hm h2
      go_wp2_with fail
      go_loopw [1, 9, 22] (fun v1 v9 v22 wr => ∃ (i : Nat) (q : Int) (l : List (List (BitVec 8))), i ≤ M ∧ v1 = .int .i64 q ∧ v22 = .int .i64 (i : Int) ∧ textsGo b i p = (l, q, 0) ∧ OwnT w'.heap.size v9 l wr ∧ Aft w' wr) (fun _ _ v _ => M - (intOf v).toNat)
      case atStart => exact ⟨0, p, [], by omega, rfl, rfl, rfl, OwnT.nil _ _, Aft.refl _⟩
      case round =>
        obtain ⟨i, q, l, hi, rfl, rfl, hgo, hown, hbw⟩ := hrel
        have HG := Lib.hid hgo
        have HO := Lib.hid hown
        have HW := Lib.hid hbw
        obtain ⟨al, cl, rfl⟩ := hown.shape
        clear hgo hown hbw
        by_cases hlt : i < M
        · have hlt' : (i : Int) < (M : Int) := by omega
          have hM2 := HM.out
          obtain ⟨t, r, e, ht⟩ : ∃ t r e, takeText b q = (t, r, e) := ⟨_, _, _, rfl⟩
          have hT := refTakeText_any (.slice ab b.length cb) b q wr (HB.out.grow HW.out) HL.out
          rw [ht] at hT
          have HT := Lib.hid hT
          have HTk := Lib.hid ht
          clear hT ht
          go_wp2_with fail
          refine HT.out.mono ?_
          rintro e' w2 ⟨a2, c2, rfl, ho2, hb2⟩
          have HO2 := Lib.hid ho2
          have HA2 := Lib.hid (show Aft wr w2 from hb2)
          clear ho2 hb2
          by_cases he : e = 0
          · subst he
            have HSn := Lib.hid (textsGo_snoc i HG.out HTk.out)
            have hln := textsGo_len i HG.out
            obtain ⟨vs, p1, p2, p3⟩ := HO.out.below (Aft.trans HA2.out (Aft.alloc w2 (.cells #[.slice a2 (bv t).length c2] 25)))
            have P1 := Lib.hid p1
            have P2 := Lib.hid p2
            have P3 := Lib.hid p3
            have HU := Lib.hid (HO2.out.alloc (.cells #[.slice a2 (bv t).length c2] 25))
            have HRu := Lib.hid (Rd.of_own (World.ownsRow_lit (base := w2.heap.size) (e := 25) (size := 1) w2 #[.slice a2 (bv t).length c2] 1 (Nat.le_refl _) (by decide) rfl))
            have HWx := Lib.hid (show Aft w' (w2.alloc (.cells #[.slice a2 (bv t).length c2] 25)) from Aft.trans HW.out (Aft.trans HA2.out (Aft.alloc _ _)))
            have HVl := Lib.hid (show vs.length ≤ 1048576 by rw [p2, hln]; omega)
            rw [← p2]
            clear p1 p2 p3 hln
            go_wp2_with ((at_builtin; refine wpList_append_rd rfl _ _ 22 rfl w'.heap.size 25 (.slice none 0 0) 24 Tryd.underlying22 info_slice rfl (.slice al vs.length cl) (.slice (some ⟨w2.heap.size, 0, none⟩) 1 1) vs [.slice a2 (bv t).length c2] rfl rfl (by have h := P1.out; rw [← P2.out] at h; exact h) HRu.out (by intro u hu; simp at hu; subst hu; rfl) (by have := HVl.out; simp; omega) (by have := HVl.out; simp; omega) (Below.size HWx.out) ?_; intro v3 w3 k1 k2 k3; have HO3 := Lib.hid (OwnT.snoc (by have h := P1.out; rw [← P2.out] at h; exact h) P2.out P3.out (ownsRow_mono HU.out (Below.size HW.out)) k1 k2); have HB3 := Lib.hid (show Aft w' w3 from HWx.out.grown k2 (Below.size HWx.out) (fun g hg => (own_lt P1.out (by rw [P2.out] at hg; exact hg)).1)); clear k1 k2 k3))
            go_roundw
            case rel => exact ⟨i + 1, r, l ++ [t], by omega, rfl, by go_num, HSn.out, HO3.out, HB3.out⟩
            case measure => simp [intOf]; omega
          · have HF := Lib.hid (textsGo_fail (M - i - 1) i HG.out HTk.out he)
            have HQ := Lib.hid (show texts b p (M : Int) = ([], 0, e) by rw [HE.out, ← HF.out, show i + (M - i - 1 + 1) = M by omega])
            go_wp2_with fail
            go_ret3
            exact TXSays.none HQ.out (Aft.trans HW.out HA2.out)
        · obtain rfl : i = M := by omega
          have hlt' : ¬ (i : Int) < (i : Int) := by omega
          go_wp2_with fail
          go_ret3
          refine ⟨al, cl, ?_, ?_, HW.out⟩ <;> rw [HE.out, HG.out]
          · rfl
          · exact HO.out.all
  · rw [show plc p b.length = false from decide_eq_false h2]
    have HE := Lib.hid (show texts b p many = ([], 0, 1) by unfold texts; rw [if_pos (by omega)])
    go_wp2_with fail
    go_ret3
    exact TXSays.none HE.out (Below.refl _ _)
/-- What End hands back. -/
def endOf (n : Nat) (p : Int) : Int := if p < 0 ∨ (n : Int) < p then 1 else if p < n then 3 else 0
theorem end_any (ab : Option Addr) (n cb : Nat) (p : Int) (w : World) : Calls Tryd.prog 55 #[.slice ab n cb, .int .i64 p] w fun e w' => e = .returned (.int .i64 (endOf n p)) ∧ w' = w := by
  go_enter Tryd.func55, Tryd.ntmps55
  by_cases h1 : p < 0
  · have HE := Lib.hid (show endOf n p = 1 by unfold endOf; rw [if_pos (.inl h1)])
    go_wp2_with fail
    go_ret
    exact ⟨by rw [HE.out]; rfl, rfl⟩
  · by_cases h2 : (n : Int) < p
    · have HE := Lib.hid (show endOf n p = 1 by unfold endOf; rw [if_pos (.inr h2)])
      go_wp2_with fail
      go_ret
      exact ⟨by rw [HE.out]; rfl, rfl⟩
    · by_cases h3 : p < (n : Int)
      · have HE := Lib.hid (show endOf n p = 3 by unfold endOf; rw [if_neg (by omega), if_pos h3])
        go_wp2_with fail
        go_ret
        exact ⟨by rw [HE.out]; rfl, rfl⟩
      · have HE := Lib.hid (show endOf n p = 0 by unfold endOf; rw [if_neg (by omega), if_neg h3])
        go_wp2_with fail
        go_ret
        exact ⟨by rw [HE.out]; rfl, rfl⟩
theorem refEnd_any (ab : Option Addr) (n cb : Nat) (p : Int) (w : World) : Calls Tryd.prog 56 #[.slice ab n cb, .int .i64 p] w fun e w' => e = .returned (.int .i64 (endOf n p)) ∧ w' = w := by
  go_enter Tryd.func56, Tryd.ntmps56
  go_wp2_with fail
  refine (place_any ab n cb p w).mono ?_
  rintro e w' ⟨rfl, rfl⟩
  by_cases h1 : 0 ≤ p ∧ p ≤ (n : Int)
  · rw [show plc p n = true from decide_eq_true h1]
    by_cases h3 : p < (n : Int)
    · have HE := Lib.hid (show endOf n p = 3 by unfold endOf; rw [if_neg (by omega), if_pos h3])
      go_wp2_with fail
      go_ret
      exact ⟨by rw [HE.out]; rfl, rfl⟩
    · have HE := Lib.hid (show endOf n p = 0 by unfold endOf; rw [if_neg (by omega), if_neg h3])
      go_wp2_with fail
      go_ret
      exact ⟨by rw [HE.out]; rfl, rfl⟩
  · rw [show plc p n = false from decide_eq_false h1]
    have HE := Lib.hid (show endOf n p = 1 by unfold endOf; rw [if_pos (by omega)])
    go_wp2_with fail
    go_ret
    exact ⟨by rw [HE.out]; rfl, rfl⟩
theorem txt_ext {l m : List (List (BitVec 8))} (h : l.length = m.length) (h2 : ∀ j, j < l.length → txt l j = txt m j) : l = m := by
  apply List.ext_getElem h
  intro i h3 h4
  have := h2 i h3
  simpa [txt, List.getD, List.getElem?_eq_getElem h3, List.getElem?_eq_getElem h4] using this
set_option maxRecDepth 100000 in
set_option maxHeartbeats 2000000 in
theorem sameAll_any (va vb : Value) (l m : List (List (BitVec 8))) (w : World) (ha : RdAll w va l) (hb : RdAll w vb m) (hl : l.length ≤ 1099511627776) :
    Calls Tryd.prog 51 #[va, vb] w fun e w' => e = .returned (.bool (decide (l = m))) ∧ Aft w w' := by
  have HA := Lib.hid ha
  have HB := Lib.hid hb
  have HL := Lib.hid hl
  obtain ⟨aa, ca, rfl, -⟩ := ha.shape
  obtain ⟨ab, cb, rfl, -⟩ := hb.shape
  clear ha hb hl
  go_enter Tryd.func51, Tryd.ntmps51
  by_cases hn : l.length = m.length
  · have HN := Lib.hid hn
    rw [hn]
    clear hn
    go_wp2_with fail
    go_loopw [13] (fun v wr => ∃ i : Nat, i ≤ m.length ∧ v = .int .i64 i ∧ Aft w wr ∧ ∀ j, j < i → txt l j = txt m j) (fun v _ => m.length - (intOf v).toNat)
    case atStart => exact ⟨0, by omega, rfl, Aft.refl _, fun j hj => by omega⟩
    case round =>
      obtain ⟨i, hi, rfl, hbw, hall⟩ := hrel
      have HW := Lib.hid hbw
      have HAll := Lib.hid hall
      clear hbw hall
      by_cases hlt : i < m.length
      · have hlt' : (i : Int) < (m.length : Nat) := by omega
        have hi63 : (i : Int) + 1 ≤ 9223372036854775807 := by have := HL.out; have := HN.out; omega
        have hla : i < l.length := by rw [HN.out]; exact hlt
        obtain ⟨g, o, c1, u1, hv1, hc1, hu1⟩ := (HA.out.below HW.out).cell hla
        cases hv1
        obtain ⟨g2, o2, c2, u2, hv2, hc2, hu2⟩ := (HB.out.below HW.out).cell hlt
        cases hv2
        have HC1 := Lib.hid hc1
        have HC2 := Lib.hid hc2
        have HU1 := Lib.hid (show Rd wr u1 (bv (txt l i)) from hu1)
        have HU2 := Lib.hid (show Rd wr u2 (bv (txt m i)) from hu2)
        have HT := Lib.hid (fun (h : txt l i = txt m i) => (fun j (hj : j < i + 1) => by
          by_cases hj2 : j < i
          · exact HAll.out j hj2
          · obtain rfl : j = i := by omega
            exact h : ∀ j, j < i + 1 → txt l j = txt m j))
        have HNe := Lib.hid (fun (h : ¬ txt l i = txt m i) => (fun hh => h (by rw [hh]) : ¬ l = m))
        generalize txt l i = x at HU1 HT HNe
        generalize txt m i = y at HU2 HT HNe
        clear hc1 hc2 hu1 hu2 hla
        go_wp2_with fail
        refine wp_region_lexF (fun i => ([0, 0, 0, 0, 0, 0, 0, 0, 2] : List Nat).getD i 0) 9 (by kernel_rfl) (by kernel_rfl) ?_; intro wi hwi
        have HWi := Lib.hid (show Aft wr wi by rw [hwi]; exact (Below.refl _ _).drew)
        clear hwi
        have cA := fun u : Later wi.heap.size wi => (Below.cell (Aft.trans HWi.out u.h) (p := ⟨g, o + i, none⟩) (block_lt_of_cell HC1.out)).trans HC1.out
        have cB := fun u : Later wi.heap.size wi => (Below.cell (Aft.trans HWi.out u.h) (p := ⟨g2, o2 + i, none⟩) (block_lt_of_cell HC2.out)).trans HC2.out
        repeat (first | (refine lf_skip (by go_big_quiet_skip; exact wpQuiet_nil trivial) (by kernel_rfl) ?_; simp only [Act.put, List.setIfInBounds_toArray, List.set_cons_succ, List.set_cons_zero]) | (refine lf_quiet rfl (by go_big_quiet_want; exact quiet_false (by assumption)) (by kernel_rfl) rfl ?_; intro Kx hKx; go_big_quiet_op; go_big_quiet_on))
        clear cA cB
        refine lf_eff rfl (by go_big_quiet_want; exact quiet_false (by assumption)) (by kernel_rfl) ?_; intro wj hj Kx hKx; go_wp2_with fail
        refine (same_any u1 u2 x y wj (HU1.out.grow (Aft.trans HWi.out hj)) (HU2.out.grow (Aft.trans HWi.out hj))).mono ?_
        rintro e wk ⟨rfl, rfl⟩
        have HJ := Lib.hid (show Aft wr wk from Aft.trans HWi.out hj)
        go_wp2_with fail
        refine ⟨Below.refl _ _, ?_⟩
        clear hj
        by_cases hxy : x = y
        · rw [decide_eq_true hxy]
          have HG := Lib.hid (HT.out hxy)
          clear hxy
          repeat (first | (refine lf_skip (by go_big_quiet_skip; exact wpQuiet_nil trivial) (by kernel_rfl) ?_; simp only [Act.put, List.setIfInBounds_toArray, List.set_cons_succ, List.set_cons_zero]) | (refine lf_quiet rfl (by go_big_quiet_want; exact quiet_false (by assumption)) (by kernel_rfl) rfl ?_; intro Kx hKx; go_big_quiet_op; go_big_quiet_on))
          refine lf_done ?_
          intro wm hm
          have HM := Lib.hid (Aft.trans HW.out (Aft.trans HJ.out hm))
          clear hm
          go_wp2_with fail
          go_roundw
          case rel => exact ⟨i + 1, by omega, by go_num, HM.out, HG.out⟩
          case measure => simp [intOf]; omega
        · rw [decide_eq_false hxy]
          have HG := Lib.hid (HNe.out hxy)
          clear hxy
          repeat (first | (refine lf_skip (by go_big_quiet_skip; exact wpQuiet_nil trivial) (by kernel_rfl) ?_; simp only [Act.put, List.setIfInBounds_toArray, List.set_cons_succ, List.set_cons_zero]) | (refine lf_quiet rfl (by go_big_quiet_want; exact quiet_false (by assumption)) (by kernel_rfl) rfl ?_; intro Kx hKx; go_big_quiet_op; go_big_quiet_on))
          refine lf_done ?_
          intro wm hm
          have HM := Lib.hid (Aft.trans HW.out (Aft.trans HJ.out hm))
          clear hm
          go_wp2_with fail
          go_ret
          exact ⟨by rw [decide_eq_false HG.out]; rfl, HM.out⟩
      · obtain rfl : i = m.length := by omega
        have hlt' : ¬ ((m.length : Nat) : Int) < (m.length : Nat) := by omega
        have HE := Lib.hid (txt_ext HN.out (by rw [HN.out]; exact HAll.out))
        go_wp2_with fail
        go_ret
        exact ⟨by rw [decide_eq_true HE.out]; rfl, HW.out⟩
  · have hn' : ¬ (l.length : Int) = (m.length : Int) := by omega
    have HE := Lib.hid (show ¬ l = m from fun h => hn (by rw [h]))
    clear hn
    go_wp2_with fail
    go_ret
    exact ⟨by rw [decide_eq_false HE.out]; rfl, Aft.refl _⟩
end Go.Proofs.YtifehfcgmodmaaaDoor
