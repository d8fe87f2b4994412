/- coterielaw15.live, and few. -/
import Derived.Test.YtanodhagpegbfaaDoorRPure
import Derived.Test.YtanodhagpegbfaaDoorRSame
namespace Go.Proofs.YtanodhagpegbfaaDoor
open Go Go.RowKit
set_option linter.unusedSimpArgs false

theorem OwnS.gen {w : World} {base g n cap : Nat} {zs : List Sk} (h : OwnS w base (.slice (some ⟨g, 0, none⟩) n cap) zs) (i : Nat) (hi : i < zs.length) : w.cell? ⟨g, i * 33, none⟩ = some (.int .u64 ((zs[i]?.getD default).1.1 : Int)) := by
  rcases h.2 with ⟨he, -⟩ | ⟨g', cap', cur, he, -⟩
  · cases he
  · cases he
    have := h.sks.cells (i * 33) (.int .u64 ((zs[i]?.getD default).1.1 : Int)) (by
      have := sksL_at zs i 0 hi (by decide)
      rw [Nat.add_zero] at this
      rw [this]
      rfl)
    rw [Addr.add_lit, Nat.zero_add] at this
    exact this
def oneS : List (BitVec 8) := 1 :: List.replicate 31 0
theorem build_oneS (w : World) : (Instr.build 23 #[(0, .int .u8 1)]).run Tryd.prog w = .ok (.agg (bv oneS).toArray) w := by kernel_rfl
/-- What Take answers, with values of its own names. -/
theorem TakeSays.as {C : List (BitVec 8)} {G : Nat} {zs : List Sk} {t : Nat} {w : World} {r : Ending} {w' : World} (h : TakeSays C G zs t w r w') : ∃ ao cap, r = .returned (.tuple #[.agg (bv (tkK C G zs t)).toArray, .agg (ratL (tkC C G zs t) (tkG G zs t) (.slice ao (tkZ C G zs t).length cap)).toArray, .int .i64 (tkE G zs t)]) ∧ OwnS w' w.heap.size (.slice ao (tkZ C G zs t).length cap) (tkZ C G zs t) ∧ Aft w w' := by
  obtain ⟨v, h1, h2, h3⟩ := h
  obtain ⟨ao, cap, rfl⟩ := h2.shape
  exact ⟨ao, cap, h1, h2, h3⟩
theorem live_nums (C : List (BitVec 8)) : tkE 0 [] 0 = 0 ∧ tkG 0 [] 0 = 1 ∧ tkZ C 0 [] 0 = [] ∧ tkE 1 [] 2 = 0 ∧ tkG 1 [] 2 = 3 ∧ tkZ C 1 [] 2 = [mkS 1 (kyA C 0)] := by
  have h1 : tkE 0 [] 0 = 0 := by decide
  have h2 : tkE 1 [] 2 = 0 := by decide
  have n1 : ¬ tkE 0 [] 0 ≠ 0 := fun q => q h1
  have n2 : ¬ tkE 1 [] 2 ≠ 0 := fun q => q h2
  refine ⟨h1, by decide, ?_, h2, by decide, ?_⟩
  · unfold tkZ
    rw [if_neg n1, if_neg (by decide)]
    rfl
  · unfold tkZ
    rw [if_neg n2, if_neg (by decide)]
    rfl
set_option maxRecDepth 100000 in
set_option maxHeartbeats 2000000 in
theorem live15_any (w : World) (hK : TabK K0 2 w) : Calls Tryd.prog 50 #[] w fun e w' => e = .returned (.bool true) ∧ Aft w w' := by
  have HK := Lib.hid hK
  have HS := Lib.hid (fun (wx : World) (h : Aft w wx) => start_any oneS 5 wx (TabK_fr HK.out (Fr.of_below (S := fun _ => False) h) (fun h => h)) rfl)
  have HT := Lib.hid (fun (C : List (BitVec 8)) (hC : C.length = 32) (G t : Nat) (hG : G < 18446744073709551616) (ht : t < 18446744073709551616) (a : Option Addr) (cap : Nat) (wx : World) (h : Aft w wx) (hI : Sks wx.heap.size wx (.slice a 0 cap) []) =>
    (rtake_any C G t a cap [] wx (TabK_fr HK.out (Fr.of_below (S := fun _ => False) h) (fun h => h)) hC hG ht (by decide) hI).mono fun _ _ h => h.as)
  have HX := Lib.hid (stC_length oneS 5)
  rw [show stE 5 = 0 from rfl] at HS
  generalize stC oneS 5 = C0 at *
  have HL := Lib.hid (Led.start w)
  clear hK
  go_enter Tryd.func50, Tryd.ntmps50
  go_wp2_with (first | (refine wpList_buildO (by kernel_rfl) 23 #[(0, .const (.int .u8 1))] rfl #[(0, .int .u8 1)] (by kernel_rfl) _ (build_oneS) ?_))
  refine (HS.out _ HL.out.aft).mono ?_
  rintro r w2 ⟨rfl, h2⟩
  replace HL := Lib.hid (HL.out.call h2)
  clear h2
  go_wp2_with (first | (refine wpList_allocO rfl 71 rfl (.cells (ratL (List.replicate 32 0) 0 (.slice none 0 0)).toArray 71) alloc_rat ?_; intro w' aa gg zz; (try replace HO := Lib.hid (HO.out.aft aa)); (try replace HO2 := Lib.hid (HO2.out.aft aa)); (try replace HOK := Lib.hid (HOK.out.aft aa)); replace HL := Lib.hid (HL.out.alloc aa gg.out); clear aa gg zz; try simp only [List.nil_append, List.cons_append, List.set_cons_zero, List.set_cons_succ] at HL) | (refine wpList_store_ratZ rfl (.tmp 1) (.tmp 10) _ (C0) (0) (.slice none 0 0) HX.out rfl rfl rfl rfl _ (HL.out.get 0 rfl) (rat_old List.length_replicate) ?_; intro w' b1 b2 b3; (try replace HO := Lib.hid (HO.out.stored (HL.out.get 0 rfl) (by decide) b2.out)); (try replace HO2 := Lib.hid (HO2.out.stored (HL.out.get 0 rfl) (by decide) b2.out)); (try replace HOK := Lib.hid (HOK.out.stored (HL.out.get 0 rfl) (by decide) b2.out)); replace HL := Lib.hid (HL.out.store 0 rfl b1 b2 b3); clear b1 b2 b3; try simp only [List.nil_append, List.cons_append, List.set_cons_zero, List.set_cons_succ] at HL) | (refine wpList_load_rowG (by kernel_rfl) 71 (.tmp 1) rfl _ rfl _ _ _ _ (HL.out.get 0 rfl) Tryd.underlying71 rfl (rat_info HX.out) ?_))
  refine (HT.out C0 HX.out 0 0 (by decide) (by decide) none 0 _ HL.out.aft (.inl ⟨rfl, rfl⟩)).mono ?_
  rintro r w3 ⟨ao, cap, rfl, ho, h3⟩
  obtain ⟨n1, n2, n3, n4, n5, -⟩ := live_nums C0
  have HKl := Lib.hid (tkK_length C0 0 [] 0)
  have HCl := Lib.hid (tkC_length HX.out 0 [] 0)
  rw [n3] at ho ⊢
  rw [n1, n2]
  generalize tkK C0 0 [] 0 = K1 at *
  generalize tkC C0 0 [] 0 = C1 at *
  have HO := Lib.hid ho
  replace HL := Lib.hid (HL.out.call h3)
  clear h3 ho n1 n2 n3 n4 n5
  rw [show ([] : List Sk).length = 0 from rfl] at HO ⊢
  go_wp2_with (first | (refine wpList_allocO rfl 23 rfl (.cells key0 23) alloc_key ?_; intro w' aa gg zz; (try replace HO := Lib.hid (HO.out.aft aa)); (try replace HO2 := Lib.hid (HO2.out.aft aa)); (try replace HOK := Lib.hid (HOK.out.aft aa)); replace HL := Lib.hid (HL.out.alloc aa gg.out); clear aa gg zz; try simp only [List.nil_append, List.cons_append, List.set_cons_zero, List.set_cons_succ] at HL) | (refine wpList_store_keyZ rfl (.tmp 3) (.tmp 15) rfl _ K1 HKl.out rfl rfl _ (HL.out.get 1 rfl) key0_size ?_; intro w' b1 b2 b3; (try replace HO := Lib.hid (HO.out.stored (HL.out.get 1 rfl) (by decide) b2.out)); (try replace HO2 := Lib.hid (HO2.out.stored (HL.out.get 1 rfl) (by decide) b2.out)); (try replace HOK := Lib.hid (HOK.out.stored (HL.out.get 1 rfl) (by decide) b2.out)); replace HL := Lib.hid (HL.out.store 1 rfl b1 b2 b3); clear b1 b2 b3; try simp only [List.nil_append, List.cons_append, List.set_cons_zero, List.set_cons_succ] at HL) | (refine wpList_store_ratZ rfl (.tmp 1) (.tmp 16) _ (C1) (1) (.slice ao 0 cap) HCl.out rfl rfl rfl rfl _ (HL.out.get 0 rfl) (rat_old HX.out) ?_; intro w' b1 b2 b3; (try replace HO := Lib.hid (HO.out.stored (HL.out.get 0 rfl) (by decide) b2.out)); (try replace HO2 := Lib.hid (HO2.out.stored (HL.out.get 0 rfl) (by decide) b2.out)); (try replace HOK := Lib.hid (HOK.out.stored (HL.out.get 0 rfl) (by decide) b2.out)); replace HL := Lib.hid (HL.out.store 0 rfl b1 b2 b3); clear b1 b2 b3; try simp only [List.nil_append, List.cons_append, List.set_cons_zero, List.set_cons_succ] at HL) | (refine wpList_load_rowG (by kernel_rfl) 71 (.tmp 1) rfl _ rfl _ _ _ _ (HL.out.get 0 rfl) Tryd.underlying71 rfl (rat_info HCl.out) ?_))
  refine (HT.out C1 HCl.out 1 2 (by decide) (by decide) ao cap _ HL.out.aft HO.out.sks).mono ?_
  rintro r w4 ⟨ao', cap', rfl, ho, h4⟩
  obtain ⟨-, -, -, n4, n5, n6⟩ := live_nums C1
  have HKl2 := Lib.hid (tkK_length C1 1 [] 2)
  have HCl2 := Lib.hid (tkC_length HCl.out 1 [] 2)
  rw [n6] at ho ⊢
  rw [n4, n5]
  generalize tkK C1 1 [] 2 = K2 at *
  generalize tkC C1 1 [] 2 = C2 at *
  replace HO := Lib.hid ho
  replace HL := Lib.hid (HL.out.call h4)
  clear h4 ho n4 n5 n6
  rcases HO.out.2 with ⟨-, hn0⟩ | ⟨g, cap2, cur, he, -⟩
  · cases hn0
  injection he with e1 e2 e3
  subst e1 e3
  clear e2 cur
  rw [show ([mkS 1 (kyA C1 0)] : List Sk).length = 1 from List.length_singleton] at HO ⊢
  have HV := Lib.hid (mkS_val (g := 1) (by decide) (kyA_length C1 0))
  generalize mkS 1 (kyA C1 0) = sk at *
  have HG := Lib.hid (show ((([sk] : List Sk)[0]?.getD default).1.1 : Int) = 1 by
    rw [show ([sk] : List Sk)[0]?.getD default = sk from rfl, HV.out]
    rfl)
  go_wp2_with (first | (refine wpList_allocO rfl 23 rfl (.cells key0 23) alloc_key ?_; intro w' aa gg zz; (try replace HO := Lib.hid (HO.out.aft aa)); (try replace HO2 := Lib.hid (HO2.out.aft aa)); (try replace HOK := Lib.hid (HOK.out.aft aa)); replace HL := Lib.hid (HL.out.alloc aa gg.out); clear aa gg zz; try simp only [List.nil_append, List.cons_append, List.set_cons_zero, List.set_cons_succ] at HL) | (refine wpList_store_keyZ rfl (.tmp 5) (.tmp 21) rfl _ K2 HKl2.out rfl rfl _ (HL.out.get 2 rfl) key0_size ?_; intro w' b1 b2 b3; (try replace HO := Lib.hid (HO.out.stored (HL.out.get 2 rfl) (by decide) b2.out)); (try replace HO2 := Lib.hid (HO2.out.stored (HL.out.get 2 rfl) (by decide) b2.out)); (try replace HOK := Lib.hid (HOK.out.stored (HL.out.get 2 rfl) (by decide) b2.out)); replace HL := Lib.hid (HL.out.store 2 rfl b1 b2 b3); clear b1 b2 b3; try simp only [List.nil_append, List.cons_append, List.set_cons_zero, List.set_cons_succ] at HL) | (refine wpList_store_ratZ rfl (.tmp 1) (.tmp 22) _ (C2) (3) (.slice (some ⟨g, 0, none⟩) 1 cap') HCl2.out rfl rfl rfl rfl _ (HL.out.get 0 rfl) (rat_old HCl.out) ?_; intro w' b1 b2 b3; (try replace HO := Lib.hid (HO.out.stored (HL.out.get 0 rfl) (by decide) b2.out)); (try replace HO2 := Lib.hid (HO2.out.stored (HL.out.get 0 rfl) (by decide) b2.out)); (try replace HOK := Lib.hid (HOK.out.stored (HL.out.get 0 rfl) (by decide) b2.out)); replace HL := Lib.hid (HL.out.store 0 rfl b1 b2 b3); clear b1 b2 b3; try simp only [List.nil_append, List.cons_append, List.set_cons_zero, List.set_cons_succ] at HL; have hn := rat_n (HL.out.get 0 rfl) HCl2.out; have hl := rat_l (HL.out.get 0 rfl) HCl2.out; have hg := HO.out.gen 0 (by simp); rw [HG.out, Nat.zero_mul] at hg))
  go_ret
  exact ⟨rfl, HL.out.aft⟩
/-- Whether it is near enough to be played. -/
def fewB (G : Nat) (n t : Nat) : Bool := decide (n ≤ 1100 ∧ (t < G ∨ t - G ≤ 40 ∨ 1024 < t - G))
theorem sub_u64 (a b : Int) (h1 : b ≤ a) (h2 : 0 ≤ b) (h3 : a < 18446744073709551616) : IntKind.u64.wrap (a - b) = a - b := by
  have e2 : ∀ x : Int, IntKind.u64.wrap x = x % 18446744073709551616 := fun _ => rfl
  rw [e2]
  omega
set_option maxRecDepth 100000 in
set_option maxHeartbeats 2000000 in
theorem few15_any (C : List (BitVec 8)) (G t n : Nat) (a : Option Addr) (cap : Nat) (w : World) (hC : C.length = 32) (hG : G < 18446744073709551616) (ht : t < 18446744073709551616) :
    Calls Tryd.prog 54 #[.agg (ratL C G (.slice a n cap)).toArray, .int .u64 (t : Int)] w fun e w' => e = .returned (.bool (fewB G n t)) ∧ Aft w w' := by
  have HC := Lib.hid hC
  obtain ⟨z, hz0⟩ : ∃ z : Int, z = (t : Int) := ⟨_, rfl⟩
  obtain ⟨g, hg0⟩ : ∃ g : Int, g = (G : Int) := ⟨_, rfl⟩
  have HZ := Lib.hid hz0
  have HG := Lib.hid hg0
  have HT := Lib.hid ht
  have HG2 := Lib.hid hG
  rw [← hz0]
  have HL := Lib.hid (Led.start w)
  clear hC hz0 hg0 ht hG
  go_enter Tryd.func54, Tryd.ntmps54
  by_cases h1 : (n : Int) ≤ 1100
  · by_cases h2 : z < g
    · have HR := Lib.hid (show fewB G n t = true from decide_eq_true ⟨by omega, .inl (by have := HZ.out; have := HG.out; omega)⟩)
      rw [HR.out]
      go_wp2_with (first | (refine wpList_boxO rfl 71 (.tmp 0) rfl (.agg (ratL C G (.slice a n cap)).toArray) rfl (.cells (ratL C G (.slice a n cap)).toArray 71) (box_rat _) ?_; intro wb aa gg zz; replace HL := Lib.hid (HL.out.alloc aa gg.out); clear aa gg zz; try simp only [List.nil_append, List.cons_append, List.set_cons_zero, List.set_cons_succ] at HL; have hn := rat_n (HL.out.get 0 rfl) HC.out; rw [← HG.out] at hn; have hl := rat_l (HL.out.get 0 rfl) HC.out))
      go_ret
      exact ⟨rfl, HL.out.aft⟩
    · have hw : IntKind.u64.wrap (z - g) = z - g := sub_u64 z g (by omega) (by have := HG.out; omega) (by have := HZ.out; have := HT.out; omega)
      by_cases h3 : z - g ≤ 40
      · have HR := Lib.hid (show fewB G n t = true from decide_eq_true ⟨by omega, .inr (.inl (by have := HZ.out; have := HG.out; omega))⟩)
        rw [HR.out]
        go_wp2_with (first | (refine wpList_boxO rfl 71 (.tmp 0) rfl (.agg (ratL C G (.slice a n cap)).toArray) rfl (.cells (ratL C G (.slice a n cap)).toArray 71) (box_rat _) ?_; intro wb aa gg zz; replace HL := Lib.hid (HL.out.alloc aa gg.out); clear aa gg zz; try simp only [List.nil_append, List.cons_append, List.set_cons_zero, List.set_cons_succ] at HL; have hn := rat_n (HL.out.get 0 rfl) HC.out; rw [← HG.out] at hn; have hl := rat_l (HL.out.get 0 rfl) HC.out))
        go_ret
        exact ⟨rfl, HL.out.aft⟩
      · have HR := Lib.hid (show fewB G n t = decide ((1024 : Int) < z - g) by
          unfold fewB
          have := HZ.out
          have := HG.out
          rw [decide_eq_decide]
          omega)
        rw [HR.out]
        go_wp2_with (first | (refine wpList_boxO rfl 71 (.tmp 0) rfl (.agg (ratL C G (.slice a n cap)).toArray) rfl (.cells (ratL C G (.slice a n cap)).toArray 71) (box_rat _) ?_; intro wb aa gg zz; replace HL := Lib.hid (HL.out.alloc aa gg.out); clear aa gg zz; try simp only [List.nil_append, List.cons_append, List.set_cons_zero, List.set_cons_succ] at HL; have hn := rat_n (HL.out.get 0 rfl) HC.out; rw [← HG.out] at hn; have hl := rat_l (HL.out.get 0 rfl) HC.out))
        go_ret
        exact ⟨rfl, HL.out.aft⟩
  · have HR := Lib.hid (show fewB G n t = false from decide_eq_false (fun q => h1 (by have := q.1; omega)))
    rw [HR.out]
    go_wp2_with (first | (refine wpList_boxO rfl 71 (.tmp 0) rfl (.agg (ratL C G (.slice a n cap)).toArray) rfl (.cells (ratL C G (.slice a n cap)).toArray 71) (box_rat _) ?_; intro wb aa gg zz; replace HL := Lib.hid (HL.out.alloc aa gg.out); clear aa gg zz; try simp only [List.nil_append, List.cons_append, List.set_cons_zero, List.set_cons_succ] at HL; have hn := rat_n (HL.out.get 0 rfl) HC.out; rw [← HG.out] at hn; have hl := rat_l (HL.out.get 0 rfl) HC.out))
    go_ret
    exact ⟨rfl, HL.out.aft⟩
end Go.Proofs.YtanodhagpegbfaaDoor
