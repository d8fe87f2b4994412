/- TermsCloses answers true. -/
import Derived.Test.YtfgammcefaomeaaK13
namespace Go.Proofs.Ytfgammcefaomeaa
open Go Go.RowKit
set_option linter.unusedSimpArgs false
/-- What two that follow the rule say is the same. -/
theorem clo_same {known : List Int} {rs : List Rl} {w w' w2 w2' : World} {e f : Ending} (h : CloSays known rs w e w') (k : CloSays known rs w2 f w2') :
    (∃ v l u c, e = .returned (.tuple #[v, .int .i64 c]) ∧ f = .returned (.tuple #[u, .int .i64 c]) ∧ Rd w' v (zv l) ∧ Rd w2' u (zv l) ∧ l.length ≤ 1048576) ∧ Aft w w' ∧ Aft w2 w2' := by
  rcases h with ⟨h1, v, l, rfl, hv, hr, hl, ha⟩ | ⟨h1, rfl, ha⟩
  · rcases k with ⟨-, u, m, rfl, hu, kr, kl, ka⟩ | ⟨k1, -, -⟩
    · obtain rfl : l = m := rise_eq hr kr fun z => (hl z).trans (kl z).symm
      have := rise_len (a := 0) (m := 1048576) hr (fun x hx => h1.within ((hl x).1 hx)) (by decide)
      exact ⟨⟨v, l, u, 0, rfl, rfl, hv, hu, by omega⟩, ha, ka⟩
    · exact absurd h1 k1
  · rcases k with ⟨k1, -⟩ | ⟨-, rfl, ka⟩
    · exact absurd k1 h1
    · exact ⟨⟨_, [], _, 1, rfl, rfl, Rd.nil _, Rd.nil _, by decide⟩, ha, ka⟩
theorem clo_ret {known : List Int} {rs : List Rl} {w w' : World} {e : Ending} (h : CloSays known rs w e w') : ∃ (v : Value) (l : List Int) (c : Int), e = .returned (.tuple #[v, .int .i64 c]) ∧ Rd w' v (zv l) := by
  rcases h with ⟨-, v, l, rfl, hv, -⟩ | ⟨-, rfl, -⟩
  · exact ⟨v, l, 0, rfl, hv⟩
  · exact ⟨_, [], 1, rfl, Rd.nil _⟩
set_option maxRecDepth 100000 in
set_option maxHeartbeats 4000000 in
theorem termsCloses_any (v u : Value) (known : List Int) (ps : List (Rl × Value)) (w : World) (h : Rd w v (zv known)) (hu : RdRl w u ps) :
    Calls Try.prog 7 #[v, u] w fun e w' => e = .returned (.bool true) ∧ Aft w w' := by
  have HKn := Lib.hid h
  have HRw := Lib.hid hu
  obtain ⟨ao, cap, rfl, hc1, hc2⟩ := h.numS
  obtain ⟨bo, dap, rfl, hd1, hd2⟩ := hu.shape
  have HRs := Lib.hid (fun (i : Nat) (hi : i < ps.length) => fst_ru hi)
  clear h hu
  go_enter Try.func7, Try.ntmps7
  go_wp2_with fail
  refine (live24_any w).mono ?_
  rintro e w1 ⟨rfl, h1⟩
  have HA := Lib.hid h1
  clear h1
  by_cases hk : 200 < known.length
  · have hk' : (200 : Int) < (known.length : Nat) := by omega
    go_wp2_with fail
    go_ret
    exact ⟨rfl, HA.out⟩
  have hk' : ¬ (200 : Int) < (known.length : Nat) := by omega
  by_cases hn : 300 < ps.length ∧ ps.length ≤ 20000
  · obtain ⟨hn1, hn2⟩ := hn
    have hn1' : (300 : Int) < (ps.length : Nat) := by omega
    have hn2' : ((ps.length : Nat) : Int) ≤ 20000 := by omega
    go_wp2_with fail
    go_ret
    exact ⟨rfl, HA.out⟩
  have HN := Lib.hid (show ps.length ≤ 300 ∨ 20000 < ps.length by omega)
  have hcase : (300 < ps.length ∧ 20000 < ps.length) ∨ ps.length ≤ 300 := by omega
  clear hn
  rcases hcase with ⟨hn1, hn2⟩ | hn1
  · have hn1' : (300 : Int) < (ps.length : Nat) := by omega
    have hn2' : ¬ ((ps.length : Nat) : Int) ≤ 20000 := by omega
    go_wp2_with fail
    go_loopw [31] (fun v31 wr => ∃ i : Nat, i ≤ ps.length ∧ v31 = .int .i64 (i : Int) ∧ (∀ j, j < i → j < 300 → (ps.getD j rlP).1.frm.length ≤ 50) ∧ Aft w wr) (fun v _ => ps.length - (intOf v).toNat)
    case atStart => exact ⟨0, Nat.zero_le _, rfl, fun j hj => absurd hj (Nat.not_lt_zero _), HA.out⟩
    case round =>
      clear HA
      obtain ⟨i, hi, rfl, hok, hA⟩ := hrel
      have HA := Lib.hid hA
      have HO := Lib.hid hok
      have HL := Lib.hid (Led.start wr)
      clear hA hok
      by_cases hlt : i < ps.length
      · have hlt' : (i : Int) < (ps.length : Nat) := by omega
        obtain ⟨g, o, c4, he, hrg⟩ := HRw.out.at hlt
        injection he with he1 he2 he3
        subst he1 he3
        obtain ⟨ka, kc, hkv, -, -⟩ := (HRw.out.kidAt hlt).numS
        have hrx := hrg wr HA.out
        have HP := Lib.hid (show ((ps.getD i rlP).1.frm.length ≤ 50 ∨ 300 ≤ i) → ∀ j, j < i + 1 → j < 300 → (ps.getD j rlP).1.frm.length ≤ 50 from fun q j hj h3 => by
          by_cases e : j = i
          · subst e; exact q.resolve_right (by omega)
          · exact HO.out j (by omega) h3)
        rw [hkv] at hrx
        generalize (ps.getD i rlP).1 = r at *
        have HRx := Lib.hid hrx
        clear hrx hrg hkv he2
        by_cases h3 : i < 300
        · have h3' : (i : Int) < 300 := by omega
          by_cases hf : r.frm.length ≤ 50
          · have hf' : ¬ (50 : Int) < (r.frm.length : Nat) := by omega
            go_wp2_with (first | (refine wpList_dstT 35 rfl ?_; refine wpList_load_mid2 (by kernel_rfl) 58 (.tmp 34) rfl _ _ rfl (rlR r (.slice ka r.frm.length kc)) HRx.out _ Try.underlying58 rfl rl_info ?_) | (refine wpList_allocO rfl 58 rfl (.cells (rlR rl0 (.slice none 0 0)).toArray 58) alloc_rl ?_; intro wA aa gg zz; have HA0 := HA; replace HA := Lib.hid (Aft.trans HA.out aa); replace HL := Lib.hid (HL.out.alloc aa gg.out); clear aa gg zz; try simp only [List.nil_append, List.cons_append, List.set_cons_zero, List.set_cons_succ] at HL) | (refine wpList_store_rowZ rfl 58 (.tmp 7) (.tmp 35) rfl _ (rlR r (.slice ka r.frm.length kc)).toArray rfl rfl _ _ (HL.out.get 0 rfl) rl_info2 rfl (all_one rlR_one) ?_; intro wB b1 b2 b3; replace HA := Lib.hid (b3 _ _ (Below.size HA0.out) HA.out); replace HL := Lib.hid (HL.out.store 0 rfl b1 b2 b3); clear b1 b2 b3; try simp only [List.nil_append, List.cons_append, List.set_cons_zero, List.set_cons_succ] at HL; have d0 := cell_part (n := 0) (HL.out.get 0 rfl) rfl))
            go_roundw
            case rel => exact ⟨i + 1, by omega, by go_num, HP.out (.inl hf), HA.out⟩
            case measure => simp [intOf]; omega
          · have hf' : (50 : Int) < (r.frm.length : Nat) := by omega
            go_wp2_with (first | (refine wpList_dstT 35 rfl ?_; refine wpList_load_mid2 (by kernel_rfl) 58 (.tmp 34) rfl _ _ rfl (rlR r (.slice ka r.frm.length kc)) HRx.out _ Try.underlying58 rfl rl_info ?_) | (refine wpList_allocO rfl 58 rfl (.cells (rlR rl0 (.slice none 0 0)).toArray 58) alloc_rl ?_; intro wA aa gg zz; have HA0 := HA; replace HA := Lib.hid (Aft.trans HA.out aa); replace HL := Lib.hid (HL.out.alloc aa gg.out); clear aa gg zz; try simp only [List.nil_append, List.cons_append, List.set_cons_zero, List.set_cons_succ] at HL) | (refine wpList_store_rowZ rfl 58 (.tmp 7) (.tmp 35) rfl _ (rlR r (.slice ka r.frm.length kc)).toArray rfl rfl _ _ (HL.out.get 0 rfl) rl_info2 rfl (all_one rlR_one) ?_; intro wB b1 b2 b3; replace HA := Lib.hid (b3 _ _ (Below.size HA0.out) HA.out); replace HL := Lib.hid (HL.out.store 0 rfl b1 b2 b3); clear b1 b2 b3; try simp only [List.nil_append, List.cons_append, List.set_cons_zero, List.set_cons_succ] at HL; have d0 := cell_part (n := 0) (HL.out.get 0 rfl) rfl))
            go_ret
            exact ⟨rfl, HA.out⟩
        · have h3' : ¬ (i : Int) < 300 := by omega
          go_wp2_with (first | (refine wpList_dstT 35 rfl ?_; refine wpList_load_mid2 (by kernel_rfl) 58 (.tmp 34) rfl _ _ rfl (rlR r (.slice ka r.frm.length kc)) HRx.out _ Try.underlying58 rfl rl_info ?_) | (refine wpList_allocO rfl 58 rfl (.cells (rlR rl0 (.slice none 0 0)).toArray 58) alloc_rl ?_; intro wA aa gg zz; have HA0 := HA; replace HA := Lib.hid (Aft.trans HA.out aa); replace HL := Lib.hid (HL.out.alloc aa gg.out); clear aa gg zz; try simp only [List.nil_append, List.cons_append, List.set_cons_zero, List.set_cons_succ] at HL) | (refine wpList_store_rowZ rfl 58 (.tmp 7) (.tmp 35) rfl _ (rlR r (.slice ka r.frm.length kc)).toArray rfl rfl _ _ (HL.out.get 0 rfl) rl_info2 rfl (all_one rlR_one) ?_; intro wB b1 b2 b3; replace HA := Lib.hid (b3 _ _ (Below.size HA0.out) HA.out); replace HL := Lib.hid (HL.out.store 0 rfl b1 b2 b3); clear b1 b2 b3; try simp only [List.nil_append, List.cons_append, List.set_cons_zero, List.set_cons_succ] at HL; have d0 := cell_part (n := 0) (HL.out.get 0 rfl) rfl))
          go_roundw
          case rel => exact ⟨i + 1, by omega, by go_num, HP.out (.inr (by omega)), HA.out⟩
          case measure => simp [intOf]; omega
      · obtain rfl : i = ps.length := by omega
        have hlt' : ¬ ((ps.length : Nat) : Int) < (ps.length : Nat) := by omega
        have HF := Lib.hid (show ps.length ≤ 300 → ∀ p ∈ ps, p.1.frm.length ≤ 50 from fun q p hp => by
          obtain ⟨j, hj, rfl⟩ := List.getElem_of_mem hp
          have := HO.out j hj (by omega)
          rwa [List.getD_eq_getElem?_getD, List.getElem?_eq_getElem hj] at this)
        clear HO HL
        go_wp2_with fail
        refine (tclose_any _ _ known ps wr (HKn.out.grow HA.out) (HRw.out.aft HA.out) (by omega) HN.out (fun q p hp => by have := HF.out q p hp; omega)).mono ?_
        intro e w5 he
        obtain ⟨v5, l5, c5, rfl, -⟩ := clo_ret he
        have HE := Lib.hid he
        have HA5 := Lib.hid (Aft.trans HA.out (clo_same he he).2.1)
        clear he
        go_wp2_with fail
        refine (kclose_any _ _ known ps w5 (HKn.out.grow HA5.out) (HRw.out.aft HA5.out) (by omega) HN.out HF.out).mono ?_
        intro e w6 hk
        obtain ⟨⟨v, l, u, c, he1, he2, hv, hu, hl⟩, -, ha6⟩ := clo_same HE.out hk
        injection he1 with he1
        injection he1 with he1
        obtain ⟨rfl, rfl⟩ : v5 = v ∧ c5 = c := by simpa using he1
        subst he2
        have HV := Lib.hid (hv.grow ha6)
        have HU := Lib.hid hu
        have HA6 := Lib.hid (Aft.trans HA5.out ha6)
        clear hk hv hu ha6 he1 HE
        go_wp2_with fail
        refine (sameInts_any _ _ l l w6 HV.out HU.out hl).mono ?_
        rintro e w7 ⟨rfl, h7⟩
        rw [decide_eq_true rfl]
        have HA7 := Lib.hid (Aft.trans HA6.out h7)
        clear h7
        go_wp2_with fail
        go_ret
        exact ⟨by simp, HA7.out⟩
  · have hn1' : ¬ (300 : Int) < (ps.length : Nat) := by omega
    go_wp2_with fail
    go_loopw [31] (fun v31 wr => ∃ i : Nat, i ≤ ps.length ∧ v31 = .int .i64 (i : Int) ∧ (∀ j, j < i → j < 300 → (ps.getD j rlP).1.frm.length ≤ 50) ∧ Aft w wr) (fun v _ => ps.length - (intOf v).toNat)
    case atStart => exact ⟨0, Nat.zero_le _, rfl, fun j hj => absurd hj (Nat.not_lt_zero _), HA.out⟩
    case round =>
      clear HA
      obtain ⟨i, hi, rfl, hok, hA⟩ := hrel
      have HA := Lib.hid hA
      have HO := Lib.hid hok
      have HL := Lib.hid (Led.start wr)
      clear hA hok
      by_cases hlt : i < ps.length
      · have hlt' : (i : Int) < (ps.length : Nat) := by omega
        obtain ⟨g, o, c4, he, hrg⟩ := HRw.out.at hlt
        injection he with he1 he2 he3
        subst he1 he3
        obtain ⟨ka, kc, hkv, -, -⟩ := (HRw.out.kidAt hlt).numS
        have hrx := hrg wr HA.out
        have HP := Lib.hid (show ((ps.getD i rlP).1.frm.length ≤ 50 ∨ 300 ≤ i) → ∀ j, j < i + 1 → j < 300 → (ps.getD j rlP).1.frm.length ≤ 50 from fun q j hj h3 => by
          by_cases e : j = i
          · subst e; exact q.resolve_right (by omega)
          · exact HO.out j (by omega) h3)
        rw [hkv] at hrx
        generalize (ps.getD i rlP).1 = r at *
        have HRx := Lib.hid hrx
        clear hrx hrg hkv he2
        by_cases h3 : i < 300
        · have h3' : (i : Int) < 300 := by omega
          by_cases hf : r.frm.length ≤ 50
          · have hf' : ¬ (50 : Int) < (r.frm.length : Nat) := by omega
            go_wp2_with (first | (refine wpList_dstT 35 rfl ?_; refine wpList_load_mid2 (by kernel_rfl) 58 (.tmp 34) rfl _ _ rfl (rlR r (.slice ka r.frm.length kc)) HRx.out _ Try.underlying58 rfl rl_info ?_) | (refine wpList_allocO rfl 58 rfl (.cells (rlR rl0 (.slice none 0 0)).toArray 58) alloc_rl ?_; intro wA aa gg zz; have HA0 := HA; replace HA := Lib.hid (Aft.trans HA.out aa); replace HL := Lib.hid (HL.out.alloc aa gg.out); clear aa gg zz; try simp only [List.nil_append, List.cons_append, List.set_cons_zero, List.set_cons_succ] at HL) | (refine wpList_store_rowZ rfl 58 (.tmp 7) (.tmp 35) rfl _ (rlR r (.slice ka r.frm.length kc)).toArray rfl rfl _ _ (HL.out.get 0 rfl) rl_info2 rfl (all_one rlR_one) ?_; intro wB b1 b2 b3; replace HA := Lib.hid (b3 _ _ (Below.size HA0.out) HA.out); replace HL := Lib.hid (HL.out.store 0 rfl b1 b2 b3); clear b1 b2 b3; try simp only [List.nil_append, List.cons_append, List.set_cons_zero, List.set_cons_succ] at HL; have d0 := cell_part (n := 0) (HL.out.get 0 rfl) rfl))
            go_roundw
            case rel => exact ⟨i + 1, by omega, by go_num, HP.out (.inl hf), HA.out⟩
            case measure => simp [intOf]; omega
          · have hf' : (50 : Int) < (r.frm.length : Nat) := by omega
            go_wp2_with (first | (refine wpList_dstT 35 rfl ?_; refine wpList_load_mid2 (by kernel_rfl) 58 (.tmp 34) rfl _ _ rfl (rlR r (.slice ka r.frm.length kc)) HRx.out _ Try.underlying58 rfl rl_info ?_) | (refine wpList_allocO rfl 58 rfl (.cells (rlR rl0 (.slice none 0 0)).toArray 58) alloc_rl ?_; intro wA aa gg zz; have HA0 := HA; replace HA := Lib.hid (Aft.trans HA.out aa); replace HL := Lib.hid (HL.out.alloc aa gg.out); clear aa gg zz; try simp only [List.nil_append, List.cons_append, List.set_cons_zero, List.set_cons_succ] at HL) | (refine wpList_store_rowZ rfl 58 (.tmp 7) (.tmp 35) rfl _ (rlR r (.slice ka r.frm.length kc)).toArray rfl rfl _ _ (HL.out.get 0 rfl) rl_info2 rfl (all_one rlR_one) ?_; intro wB b1 b2 b3; replace HA := Lib.hid (b3 _ _ (Below.size HA0.out) HA.out); replace HL := Lib.hid (HL.out.store 0 rfl b1 b2 b3); clear b1 b2 b3; try simp only [List.nil_append, List.cons_append, List.set_cons_zero, List.set_cons_succ] at HL; have d0 := cell_part (n := 0) (HL.out.get 0 rfl) rfl))
            go_ret
            exact ⟨rfl, HA.out⟩
        · have h3' : ¬ (i : Int) < 300 := by omega
          go_wp2_with (first | (refine wpList_dstT 35 rfl ?_; refine wpList_load_mid2 (by kernel_rfl) 58 (.tmp 34) rfl _ _ rfl (rlR r (.slice ka r.frm.length kc)) HRx.out _ Try.underlying58 rfl rl_info ?_) | (refine wpList_allocO rfl 58 rfl (.cells (rlR rl0 (.slice none 0 0)).toArray 58) alloc_rl ?_; intro wA aa gg zz; have HA0 := HA; replace HA := Lib.hid (Aft.trans HA.out aa); replace HL := Lib.hid (HL.out.alloc aa gg.out); clear aa gg zz; try simp only [List.nil_append, List.cons_append, List.set_cons_zero, List.set_cons_succ] at HL) | (refine wpList_store_rowZ rfl 58 (.tmp 7) (.tmp 35) rfl _ (rlR r (.slice ka r.frm.length kc)).toArray rfl rfl _ _ (HL.out.get 0 rfl) rl_info2 rfl (all_one rlR_one) ?_; intro wB b1 b2 b3; replace HA := Lib.hid (b3 _ _ (Below.size HA0.out) HA.out); replace HL := Lib.hid (HL.out.store 0 rfl b1 b2 b3); clear b1 b2 b3; try simp only [List.nil_append, List.cons_append, List.set_cons_zero, List.set_cons_succ] at HL; have d0 := cell_part (n := 0) (HL.out.get 0 rfl) rfl))
          go_roundw
          case rel => exact ⟨i + 1, by omega, by go_num, HP.out (.inr (by omega)), HA.out⟩
          case measure => simp [intOf]; omega
      · obtain rfl : i = ps.length := by omega
        have hlt' : ¬ ((ps.length : Nat) : Int) < (ps.length : Nat) := by omega
        have HF := Lib.hid (show ps.length ≤ 300 → ∀ p ∈ ps, p.1.frm.length ≤ 50 from fun q p hp => by
          obtain ⟨j, hj, rfl⟩ := List.getElem_of_mem hp
          have := HO.out j hj (by omega)
          rwa [List.getD_eq_getElem?_getD, List.getElem?_eq_getElem hj] at this)
        clear HO HL
        go_wp2_with fail
        refine (tclose_any _ _ known ps wr (HKn.out.grow HA.out) (HRw.out.aft HA.out) (by omega) HN.out (fun q p hp => by have := HF.out q p hp; omega)).mono ?_
        intro e w5 he
        obtain ⟨v5, l5, c5, rfl, -⟩ := clo_ret he
        have HE := Lib.hid he
        have HA5 := Lib.hid (Aft.trans HA.out (clo_same he he).2.1)
        clear he
        go_wp2_with fail
        refine (kclose_any _ _ known ps w5 (HKn.out.grow HA5.out) (HRw.out.aft HA5.out) (by omega) HN.out HF.out).mono ?_
        intro e w6 hk
        obtain ⟨⟨v, l, u, c, he1, he2, hv, hu, hl⟩, -, ha6⟩ := clo_same HE.out hk
        injection he1 with he1
        injection he1 with he1
        obtain ⟨rfl, rfl⟩ : v5 = v ∧ c5 = c := by simpa using he1
        subst he2
        have HV := Lib.hid (hv.grow ha6)
        have HU := Lib.hid hu
        have HA6 := Lib.hid (Aft.trans HA5.out ha6)
        clear hk hv hu ha6 he1 HE
        go_wp2_with fail
        refine (sameInts_any _ _ l l w6 HV.out HU.out hl).mono ?_
        rintro e w7 ⟨rfl, h7⟩
        rw [decide_eq_true rfl]
        have HA7 := Lib.hid (Aft.trans HA6.out h7)
        clear h7
        go_wp2_with fail
        go_ret
        exact ⟨by simp, HA7.out⟩
end Go.Proofs.Ytfgammcefaomeaa
