/- The law RatchetLeft. -/
import Derived.Test.YtanodhagpegbfaaDoorRLive
namespace Go.Proofs.YtanodhagpegbfaaDoor
open Go Go.RowKit
set_option linter.unusedSimpArgs false

theorem few_len {G n t : Nat} (h : fewB G n t = true) : n ≤ 1100 := (of_decide_eq_true h).1
set_option maxRecDepth 100000 in
set_option maxHeartbeats 4000000 in
theorem ratchetLeft_any (C : List (BitVec 8)) (G t : Nat) (v : Value) (zs : List Sk) (w : World) (hK : TabK K0 2 w) (hC : C.length = 32) (hG : G < 18446744073709551616) (ht : t < 18446744073709551616) (hI : Sks w.heap.size w v zs) :
    Calls Tryd.prog 14 #[.agg (ratL C G v).toArray, .int .u64 (t : Int)] w fun r w' => r = .returned (.bool true) ∧ Below w.heap.size w w' := by
  obtain ⟨a, cap, rfl⟩ := hI.shape
  have HK := Lib.hid hK
  have HC := Lib.hid hC
  have HLv := Lib.hid (fun (wx : World) (h : Aft w wx) => live15_any wx (TabK_fr HK.out (Fr.of_below (S := fun _ => False) h) (fun h => h)))
  have HF := Lib.hid (fun (wx : World) => few15_any C G t zs.length a cap wx hC hG ht)
  have HT := Lib.hid (fun (hz : zs.length ≤ 1048576) (wx : World) (h : Aft w wx) => (rtake_any C G t a cap zs wx (TabK_fr HK.out (Fr.of_below (S := fun _ => False) h) (fun h => h)) hC hG ht hz (hI.aft h)).mono fun _ _ h => h.as)
  have HA := Lib.hid (fun (hz : zs.length ≤ 1048576) (wx : World) (h : Aft w wx) => ahead_any C G t a cap zs wx hC hG ht hz (hI.aft h))
  have HX := Lib.hid (tkK_length C G zs t)
  have HY := Lib.hid (tkC_length hC G zs t)
  have HBad := Lib.hid (tkE_bad (G := G) (zs := zs) (t := t))
  have HBk := Lib.hid (show tkE G zs t ≠ 0 → tkK C G zs t = List.replicate 32 0 from fun h => if_pos h)
  have HDn := Lib.hid (left_down (C := C) (G := G) (zs := zs) (t := t))
  have HUp := Lib.hid (left_up (C := C) (G := G) (zs := zs) (t := t))
  have HZr := Lib.hid (tkE_zero (G := G) (zs := zs) (t := t))
  generalize tkE G zs t = f at *
  generalize tkK C G zs t = X at *
  generalize tkC C G zs t = Y at *
  generalize tkG G zs t = M at *
  generalize tkZ C G zs t = Z at *
  generalize ahE G zs t = e at *
  generalize ahN G zs t = n at *
  obtain ⟨z, hz0⟩ : ∃ z : Int, z = (t : Int) := ⟨_, rfl⟩
  obtain ⟨g, hg0⟩ : ∃ g : Int, g = (G : Int) := ⟨_, rfl⟩
  have HZ := Lib.hid hz0
  have HG := Lib.hid hg0
  rw [← hz0] at HF HT HA ⊢
  have HL := Lib.hid (Led.start w)
  clear hK hC hI hG ht hz0 hg0
  go_enter Tryd.func14, Tryd.ntmps14
  go_wp2_with (first | (refine wpList_boxO rfl 71 (.tmp 0) rfl (.agg (ratL C G (.slice a zs.length cap)).toArray) rfl (.cells (ratL C G (.slice a zs.length cap)).toArray 71) (box_rat _) ?_; intro w' aa gg zz; (try replace HO := Lib.hid (HO.out.aft aa)); (try replace HO2 := Lib.hid (HO2.out.aft aa)); replace HL := Lib.hid (HL.out.alloc aa gg.out); clear aa gg zz; try simp only [List.nil_append, List.cons_append, List.set_cons_zero, List.set_cons_succ] at HL))
  refine (HLv.out _ HL.out.aft).mono ?_
  rintro r w2 ⟨rfl, h2⟩
  replace HL := Lib.hid (HL.out.call h2)
  clear h2 HLv
  go_wp2_with (first | (refine wpList_load_rowG (by kernel_rfl) 71 (.tmp 2) rfl _ rfl _ _ _ _ (HL.out.get 0 rfl) Tryd.underlying71 rfl (rat_info HC.out) ?_))
  refine (HF.out _).mono ?_
  rintro r w3 ⟨rfl, h3⟩
  replace HL := Lib.hid (HL.out.call h3)
  clear h3 HF
  cases hfew : fewB G zs.length t with
  | false =>
    go_wp2_with fail
    go_ret
    exact ⟨rfl, HL.out.aft⟩
  | true =>
    have hz : zs.length ≤ 1048576 := by have := few_len hfew; omega
    have HTx := Lib.hid (HT.out hz)
    have HAx := Lib.hid (HA.out hz)
    have HZl := Lib.hid hz
    clear HT HA hz hfew
    go_wp2_with (first | (refine wpList_load_rowG (by kernel_rfl) 71 (.tmp 2) rfl _ rfl _ _ _ _ (HL.out.get 0 rfl) Tryd.underlying71 rfl (rat_info HC.out) ?_))
    refine (HAx.out _ HL.out.aft).mono ?_
    rintro r w4 ⟨rfl, h4⟩
    replace HL := Lib.hid (HL.out.call h4)
    clear h4 HAx
    go_wp2_with (first | (refine wpList_load_rowG (by kernel_rfl) 71 (.tmp 2) rfl _ rfl _ _ _ _ (HL.out.get 0 rfl) Tryd.underlying71 rfl (rat_info HC.out) ?_))
    refine (HTx.out _ HL.out.aft).mono ?_
    rintro r w5 ⟨ao, cp, rfl, ho, h5⟩
    have HO := Lib.hid ho
    replace HL := Lib.hid (HL.out.call h5)
    clear h5 ho HTx
    by_cases hf : f = 0
    rotate_left
    · have hbk := HBk.out hf
      subst hbk
      have hb := HBad.out hf
      have hf0 := hf
      have HB := Lib.hid hb
      clear hb
      by_cases hef : e = f
      · subst hef
        go_wp2_with (first | (refine wpList_allocO rfl 23 rfl (.cells key0 23) alloc_key ?_; intro w' aa gg zz; (try replace HO := Lib.hid (HO.out.aft aa)); (try replace HO2 := Lib.hid (HO2.out.aft aa)); replace HL := Lib.hid (HL.out.alloc aa gg.out); clear aa gg zz; try simp only [List.nil_append, List.cons_append, List.set_cons_zero, List.set_cons_succ] at HL) | (refine wpList_allocO rfl 71 rfl (.cells (ratL (List.replicate 32 0) 0 (.slice none 0 0)).toArray 71) alloc_rat ?_; intro w' aa gg zz; (try replace HO := Lib.hid (HO.out.aft aa)); (try replace HO2 := Lib.hid (HO2.out.aft aa)); replace HL := Lib.hid (HL.out.alloc aa gg.out); clear aa gg zz; try simp only [List.nil_append, List.cons_append, List.set_cons_zero, List.set_cons_succ] at HL) | (refine wpList_store_keyZ rfl (.tmp 8) (.tmp 27) rfl _ (List.replicate 32 0) HX.out rfl rfl _ (HL.out.get 1 rfl) key0_size ?_; intro w' b1 b2 b3; (try replace HO := Lib.hid (HO.out.stored (HL.out.get 1 rfl) (by decide) b2.out)); (try replace HO2 := Lib.hid (HO2.out.stored (HL.out.get 1 rfl) (by decide) b2.out)); replace HL := Lib.hid (HL.out.store 1 rfl b1 b2 b3); clear b1 b2 b3; try simp only [List.nil_append, List.cons_append, List.set_cons_zero, List.set_cons_succ] at HL) | (refine wpList_store_ratZ rfl (.tmp 9) (.tmp 28) _ (Y) (M) (.slice ao Z.length cp) HY.out rfl rfl rfl rfl _ (HL.out.get 2 rfl) (rat_old List.length_replicate) ?_; intro w' b1 b2 b3; (try replace HO := Lib.hid (HO.out.stored (HL.out.get 2 rfl) (by decide) b2.out)); (try replace HO2 := Lib.hid (HO2.out.stored (HL.out.get 2 rfl) (by decide) b2.out)); replace HL := Lib.hid (HL.out.store 2 rfl b1 b2 b3); clear b1 b2 b3; try simp only [List.nil_append, List.cons_append, List.set_cons_zero, List.set_cons_succ] at HL) | (refine wpList_load_rowG (by kernel_rfl) 23 (.tmp 8) rfl _ rfl _ _ _ _ (HL.out.get 1 rfl) Tryd.underlying23 rfl (key_info HX.out) ?_) | (refine wpList_binG (by kernel_rfl) .eql 23 23 (.tmp 47) (.tmp 48) rfl (.agg (bv (List.replicate 32 0)).toArray) (.agg key0) _ rfl rfl (run_eql_zero HX.out true (by decide)) (guard_key _ _ _ _ _) ?_))
        go_ret
        exact ⟨by simp, HL.out.aft⟩
      · obtain ⟨he0, hf9⟩ : e = 0 ∧ f = 9 := by
          rcases HB.out with h | h
          · exact absurd h hef
          · exact h
        subst he0 hf9
        clear hef hf hf0
        go_wp2_with (first | (refine wpList_allocO rfl 23 rfl (.cells key0 23) alloc_key ?_; intro w' aa gg zz; (try replace HO := Lib.hid (HO.out.aft aa)); (try replace HO2 := Lib.hid (HO2.out.aft aa)); replace HL := Lib.hid (HL.out.alloc aa gg.out); clear aa gg zz; try simp only [List.nil_append, List.cons_append, List.set_cons_zero, List.set_cons_succ] at HL) | (refine wpList_allocO rfl 71 rfl (.cells (ratL (List.replicate 32 0) 0 (.slice none 0 0)).toArray 71) alloc_rat ?_; intro w' aa gg zz; (try replace HO := Lib.hid (HO.out.aft aa)); (try replace HO2 := Lib.hid (HO2.out.aft aa)); replace HL := Lib.hid (HL.out.alloc aa gg.out); clear aa gg zz; try simp only [List.nil_append, List.cons_append, List.set_cons_zero, List.set_cons_succ] at HL) | (refine wpList_store_keyZ rfl (.tmp 8) (.tmp 27) rfl _ (List.replicate 32 0) HX.out rfl rfl _ (HL.out.get 1 rfl) key0_size ?_; intro w' b1 b2 b3; (try replace HO := Lib.hid (HO.out.stored (HL.out.get 1 rfl) (by decide) b2.out)); (try replace HO2 := Lib.hid (HO2.out.stored (HL.out.get 1 rfl) (by decide) b2.out)); replace HL := Lib.hid (HL.out.store 1 rfl b1 b2 b3); clear b1 b2 b3; try simp only [List.nil_append, List.cons_append, List.set_cons_zero, List.set_cons_succ] at HL) | (refine wpList_store_ratZ rfl (.tmp 9) (.tmp 28) _ (Y) (M) (.slice ao Z.length cp) HY.out rfl rfl rfl rfl _ (HL.out.get 2 rfl) (rat_old List.length_replicate) ?_; intro w' b1 b2 b3; (try replace HO := Lib.hid (HO.out.stored (HL.out.get 2 rfl) (by decide) b2.out)); (try replace HO2 := Lib.hid (HO2.out.stored (HL.out.get 2 rfl) (by decide) b2.out)); replace HL := Lib.hid (HL.out.store 2 rfl b1 b2 b3); clear b1 b2 b3; try simp only [List.nil_append, List.cons_append, List.set_cons_zero, List.set_cons_succ] at HL) | (refine wpList_load_rowG (by kernel_rfl) 23 (.tmp 8) rfl _ rfl _ _ _ _ (HL.out.get 1 rfl) Tryd.underlying23 rfl (key_info HX.out) ?_) | (refine wpList_binG (by kernel_rfl) .eql 23 23 (.tmp 47) (.tmp 48) rfl (.agg (bv (List.replicate 32 0)).toArray) (.agg key0) _ rfl rfl (run_eql_zero HX.out true (by decide)) (guard_key _ _ _ _ _) ?_))
        go_ret
        exact ⟨by simp, HL.out.aft⟩
    subst hf
    by_cases hlt : z < g
    · obtain ⟨d1, d2, d3⟩ := HDn.out rfl (by have := HZ.out; have := HG.out; omega)
      subst d2 d3
      have hd : wrap64 ((zs.length : Int) - 1) = (Z.length : Int) := by unfold wrap64; have := HZl.out; omega
      clear d1
      go_wp2_with (first | (refine wpList_allocO rfl 23 rfl (.cells key0 23) alloc_key ?_; intro w' aa gg zz; (try replace HO := Lib.hid (HO.out.aft aa)); (try replace HO2 := Lib.hid (HO2.out.aft aa)); replace HL := Lib.hid (HL.out.alloc aa gg.out); clear aa gg zz; try simp only [List.nil_append, List.cons_append, List.set_cons_zero, List.set_cons_succ] at HL) | (refine wpList_allocO rfl 71 rfl (.cells (ratL (List.replicate 32 0) 0 (.slice none 0 0)).toArray 71) alloc_rat ?_; intro w' aa gg zz; (try replace HO := Lib.hid (HO.out.aft aa)); (try replace HO2 := Lib.hid (HO2.out.aft aa)); replace HL := Lib.hid (HL.out.alloc aa gg.out); clear aa gg zz; try simp only [List.nil_append, List.cons_append, List.set_cons_zero, List.set_cons_succ] at HL) | (refine wpList_store_keyZ rfl (.tmp 8) (.tmp 27) rfl _ X HX.out rfl rfl _ (HL.out.get 1 rfl) key0_size ?_; intro w' b1 b2 b3; (try replace HO := Lib.hid (HO.out.stored (HL.out.get 1 rfl) (by decide) b2.out)); (try replace HO2 := Lib.hid (HO2.out.stored (HL.out.get 1 rfl) (by decide) b2.out)); replace HL := Lib.hid (HL.out.store 1 rfl b1 b2 b3); clear b1 b2 b3; try simp only [List.nil_append, List.cons_append, List.set_cons_zero, List.set_cons_succ] at HL) | (refine wpList_store_ratZ rfl (.tmp 9) (.tmp 28) _ Y M (.slice ao Z.length cp) HY.out rfl rfl rfl rfl _ (HL.out.get 2 rfl) (rat_old List.length_replicate) ?_; intro w' b1 b2 b3; (try replace HO := Lib.hid (HO.out.stored (HL.out.get 2 rfl) (by decide) b2.out)); replace HL := Lib.hid (HL.out.store 2 rfl b1 b2 b3); clear b1 b2 b3; try simp only [List.nil_append, List.cons_append, List.set_cons_zero, List.set_cons_succ] at HL; have hn0 := rat_n (HL.out.get 0 rfl) HC.out; have hl0 := rat_l (HL.out.get 0 rfl) HC.out; have hn2 := rat_n (HL.out.get 2 rfl) HY.out; have hl2 := rat_l (HL.out.get 2 rfl) HY.out; rw [← HG.out] at hn0; rw [← HG.out] at hn2) | (refine wpList_load_keyG (by kernel_rfl) (.tmp 74) rfl _ _ rfl Y (rat_c (HL.out.get 2 rfl) HY.out) HY.out ?_) | (refine wpList_load_keyG (by kernel_rfl) (.tmp 76) rfl _ _ rfl Y (rat_c (HL.out.get 0 rfl) HC.out) HC.out ?_) | (refine wpList_binG (by kernel_rfl) .eql 23 23 (.tmp 75) (.tmp 77) rfl (.agg (bv Y).toArray) (.agg (bv Y).toArray) _ rfl rfl (run_eql_key Y HY.out) (guard_key _ _ _ _ _) ?_))
      go_ret
      exact ⟨by simp, HL.out.aft⟩
    · obtain ⟨u1, u2, u3, u4, u5⟩ := HUp.out rfl (by have := HZ.out; have := HG.out; omega)
      have he := (HZr.out rfl).1
      subst he
      have HM := Lib.hid (show ((M : Nat) : Int) = z + 1 by rw [u2]; have := HZ.out; omega)
      have hd : wrap64 ((zs.length : Int) + (n : Int)) = (Z.length : Int) := by unfold wrap64; have := HZl.out; omega
      have hd2 : IntKind.u64.wrap (z + 1) = z + 1 := by
        have e2 : ∀ x : Int, IntKind.u64.wrap x = x % 18446744073709551616 := fun _ => rfl
        rw [e2]
        have := HZ.out
        omega
      have HCk := Lib.hid (fun (wx : World) (ho : OwnS wx w4.heap.size (.slice ao Z.length cp) Z) => check_any Y M ao cp Z wx HY.out (by omega) (by omega) ho.sks)
      rw [show chkE M Z = 0 by rw [u2]; exact u5] at HCk
      clear u1 u2 u3 u4 u5
      go_wp2_with (first | (refine wpList_allocO rfl 23 rfl (.cells key0 23) alloc_key ?_; intro w' aa gg zz; (try replace HO := Lib.hid (HO.out.aft aa)); (try replace HO2 := Lib.hid (HO2.out.aft aa)); replace HL := Lib.hid (HL.out.alloc aa gg.out); clear aa gg zz; try simp only [List.nil_append, List.cons_append, List.set_cons_zero, List.set_cons_succ] at HL) | (refine wpList_allocO rfl 71 rfl (.cells (ratL (List.replicate 32 0) 0 (.slice none 0 0)).toArray 71) alloc_rat ?_; intro w' aa gg zz; (try replace HO := Lib.hid (HO.out.aft aa)); (try replace HO2 := Lib.hid (HO2.out.aft aa)); replace HL := Lib.hid (HL.out.alloc aa gg.out); clear aa gg zz; try simp only [List.nil_append, List.cons_append, List.set_cons_zero, List.set_cons_succ] at HL) | (refine wpList_store_keyZ rfl (.tmp 8) (.tmp 27) rfl _ X HX.out rfl rfl _ (HL.out.get 1 rfl) key0_size ?_; intro w' b1 b2 b3; (try replace HO := Lib.hid (HO.out.stored (HL.out.get 1 rfl) (by decide) b2.out)); (try replace HO2 := Lib.hid (HO2.out.stored (HL.out.get 1 rfl) (by decide) b2.out)); replace HL := Lib.hid (HL.out.store 1 rfl b1 b2 b3); clear b1 b2 b3; try simp only [List.nil_append, List.cons_append, List.set_cons_zero, List.set_cons_succ] at HL) | (refine wpList_store_ratZ rfl (.tmp 9) (.tmp 28) _ Y M (.slice ao Z.length cp) HY.out rfl rfl rfl rfl _ (HL.out.get 2 rfl) (rat_old List.length_replicate) ?_; intro w' b1 b2 b3; (try replace HO := Lib.hid (HO.out.stored (HL.out.get 2 rfl) (by decide) b2.out)); replace HL := Lib.hid (HL.out.store 2 rfl b1 b2 b3); clear b1 b2 b3; try simp only [List.nil_append, List.cons_append, List.set_cons_zero, List.set_cons_succ] at HL; have hn0 := rat_n (HL.out.get 0 rfl) HC.out; have hl0 := rat_l (HL.out.get 0 rfl) HC.out; have hn2 := rat_n (HL.out.get 2 rfl) HY.out; have hl2 := rat_l (HL.out.get 2 rfl) HY.out; rw [← HG.out] at hn0; rw [HM.out] at hn2) | (refine wpList_load_rowG (by kernel_rfl) 71 (.tmp 9) rfl _ rfl _ _ _ _ (HL.out.get 2 rfl) Tryd.underlying71 rfl (rat_info HY.out) ?_))
      refine (HCk.out _ HO.out).mono ?_
      rintro r w6 ⟨rfl, h6⟩
      replace HL := Lib.hid (HL.out.call h6)
      clear h6
      go_wp2_with fail
      go_ret
      exact ⟨by simp, HL.out.aft⟩
end Go.Proofs.YtanodhagpegbfaaDoor
