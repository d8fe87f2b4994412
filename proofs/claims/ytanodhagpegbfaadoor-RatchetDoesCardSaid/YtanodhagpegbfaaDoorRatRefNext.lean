/- The document's ratchet: Next. -/
import Derived.Test.YtanodhagpegbfaaDoorRatRef
namespace Go.Proofs.YtanodhagpegbfaaDoor
open Go Go.RowKit
set_option linter.unusedSimpArgs false

theorem dKey_any (C : List (BitVec 8)) (w : World) (hK : TabK K0 0 w) (hC : C.length = 32) :
    Calls Tryd.prog 72 #[.agg (bv C).toArray, .string ⟨#[107, 101, 121]⟩, .slice none 0 0] w fun r w' => r = .returned (.tuple #[.agg (bv (drvKey C keyS [])).toArray, .int .i64 0]) ∧ Aft w w' :=
  refSub_any C ⟨#[107, 101, 121]⟩ (.slice none 0 0) [] w hK hC (RdAll.nil _) (by decide) (by simp) (by decide)
theorem dChain_any (C : List (BitVec 8)) (w : World) (hK : TabK K0 0 w) (hC : C.length = 32) :
    Calls Tryd.prog 72 #[.agg (bv C).toArray, .string ⟨#[99, 104, 97, 105, 110]⟩, .slice none 0 0] w fun r w' => r = .returned (.tuple #[.agg (bv (drvKey C chainS [])).toArray, .int .i64 0]) ∧ Aft w w' :=
  refSub_any C ⟨#[99, 104, 97, 105, 110]⟩ (.slice none 0 0) [] w hK hC (RdAll.nil _) (by decide) (by simp) (by decide)
set_option maxRecDepth 100000 in
set_option maxHeartbeats 4000000 in
theorem rnextRef_any (C : List (BitVec 8)) (G : Nat) (a : Option Addr) (cap : Nat) (zs : List Sk) (w : World) (hK : TabK K0 0 w) (hC : C.length = 32) (hG : G < 18446744073709551616) (hz : zs.length ≤ 1048576) (hI : Sks w.heap.size w (.slice a zs.length cap) zs) :
    Calls Tryd.prog 59 #[.agg (ratL C G (.slice a zs.length cap)).toArray] w fun r w' => ∃ v, r = .returned (.tuple #[.agg (bv (rnK C G zs)).toArray, .agg (ratL (rnC C G zs) (rnG G zs) v).toArray, .int .i64 (rnE G zs)]) ∧ OwnS w' w.heap.size v (rnZ G zs) ∧ Aft w w' := by
  have HK := Lib.hid hK
  have HC := Lib.hid hC
  have HCk := Lib.hid (fun (wx : World) (h : Aft w wx) => rcheckRef_any C G a cap zs wx hC hz (hI.aft h))
  have HCl := Lib.hid (fun (wx : World) (h : Aft w wx) => rcopy_any C G a cap zs wx hC hz (hI.aft h))
  have D1 := Lib.hid (fun (wx : World) (h : Aft w wx) => dKey_any C wx (TabK_fr HK.out (Fr.of_below (S := fun _ => False) h) (fun h => h)) hC)
  have D2 := Lib.hid (fun (wx : World) (h : Aft w wx) => dChain_any C wx (TabK_fr HK.out (Fr.of_below (S := fun _ => False) h) (fun h => h)) hC)
  have HL := Lib.hid (Led.start w)
  clear hK hC hI hz
  go_enter Tryd.func59, Tryd.ntmps59
  go_wp2_with (first | (refine wpList_boxO rfl 71 (.tmp 0) rfl (.agg (ratL C G (.slice a zs.length cap)).toArray) rfl (.cells (ratL C G (.slice a zs.length cap)).toArray 71) (box_rat _) ?_; intro w' aa gg zz; (try replace HO := Lib.hid (HO.out.aft aa)); (try replace HO2 := Lib.hid (HO2.out.aft aa)); (try replace HOK := Lib.hid (HOK.out.aft aa)); replace HL := Lib.hid (HL.out.alloc aa gg.out); clear aa gg zz; try simp only [List.nil_append, List.cons_append, List.set_cons_zero, List.set_cons_succ] at HL) | (refine wpList_allocO rfl 23 rfl (.cells key0 23) alloc_key ?_; intro w' aa gg zz; (try replace HO := Lib.hid (HO.out.aft aa)); (try replace HO2 := Lib.hid (HO2.out.aft aa)); (try replace HOK := Lib.hid (HOK.out.aft aa)); replace HL := Lib.hid (HL.out.alloc aa gg.out); clear aa gg zz; try simp only [List.nil_append, List.cons_append, List.set_cons_zero, List.set_cons_succ] at HL) | (refine wpList_allocO rfl 71 rfl (.cells (ratL (List.replicate 32 0) 0 (.slice none 0 0)).toArray 71) alloc_rat ?_; intro w' aa gg zz; (try replace HO := Lib.hid (HO.out.aft aa)); (try replace HO2 := Lib.hid (HO2.out.aft aa)); (try replace HOK := Lib.hid (HOK.out.aft aa)); replace HL := Lib.hid (HL.out.alloc aa gg.out); clear aa gg zz; try simp only [List.nil_append, List.cons_append, List.set_cons_zero, List.set_cons_succ] at HL) | (refine wpList_load_rowG (by kernel_rfl) 71 (.tmp 1) rfl _ rfl _ _ _ _ (HL.out.get 0 rfl) Tryd.underlying71 rfl (rat_info HC.out) ?_))
  refine (HCk.out _ HL.out.aft).mono ?_
  rintro r w2 ⟨rfl, h2⟩
  replace HL := Lib.hid (HL.out.call h2)
  clear h2 HCk
  have hn := rat_n (HL.out.get 0 rfl) HC.out
  rcases chkE_or G zs with hk | hk
  · obtain ⟨k1, -, -⟩ := chkE_zero hk
    by_cases h8 : (G : Int) = 4294967296
    · have HE := Lib.hid (show rnE G zs = 8 by unfold rnE; rw [if_neg (by rw [hk]; simp), if_pos (by omega)])
      have e1 := Lib.hid (show rnK C G zs = List.replicate 32 0 from if_neg (by rw [HE.out]; decide))
      have e2 := Lib.hid (show rnC C G zs = List.replicate 32 0 from if_neg (by rw [HE.out]; decide))
      have e3 := Lib.hid (show rnG G zs = 0 from if_neg (by rw [HE.out]; decide))
      have e4 := Lib.hid (show rnZ G zs = [] from if_neg (by rw [HE.out]; decide))
      rw [hk]
      clear hk k1
      go_wp2_with (first | (refine wpList_store_keyZ0 rfl (.tmp 2) (.tmp 15) rfl _ rfl rfl _ (HL.out.get 1 rfl) key0_size ?_; intro w' b1 b2 b3; (try replace HO := Lib.hid (HO.out.stored (HL.out.get 1 rfl) (by decide) b2.out)); (try replace HO2 := Lib.hid (HO2.out.stored (HL.out.get 1 rfl) (by decide) b2.out)); (try replace HOK := Lib.hid (HOK.out.stored (HL.out.get 1 rfl) (by decide) b2.out)); replace HL := Lib.hid (HL.out.store 1 rfl b1 b2 b3); clear b1 b2 b3; try simp only [List.nil_append, List.cons_append, List.set_cons_zero, List.set_cons_succ] at HL) | (refine wpList_buildO (by kernel_rfl) 71 #[] rfl #[] (by kernel_rfl) _ (build_rat0) ?_) | (refine wpList_store_ratZ rfl (.tmp 3) (.tmp 16) _ (List.replicate 32 0) (0) (.slice none 0 0) List.length_replicate rfl rfl rfl rfl _ (HL.out.get 2 rfl) (rat_old List.length_replicate) ?_; intro w' b1 b2 b3; (try replace HO := Lib.hid (HO.out.stored (HL.out.get 2 rfl) (by decide) b2.out)); (try replace HO2 := Lib.hid (HO2.out.stored (HL.out.get 2 rfl) (by decide) b2.out)); (try replace HOK := Lib.hid (HOK.out.stored (HL.out.get 2 rfl) (by decide) b2.out)); replace HL := Lib.hid (HL.out.store 2 rfl b1 b2 b3); clear b1 b2 b3; try simp only [List.nil_append, List.cons_append, List.set_cons_zero, List.set_cons_succ] at HL))
      refine bodyPost_ret (results_cell2 rfl _ _ _ _ _ _ _ _ _ _ _ _ rfl rfl (HL.out.get 1 rfl) (HL.out.get 2 rfl) Tryd.underlying23 rfl (key_info List.length_replicate) Tryd.underlying71 rfl (rat_info List.length_replicate)) rfl ?_
      exact ⟨.slice none 0 0, by rw [HE.out, e1.out, e2.out, e3.out]; rfl, by rw [e4.out]; exact OwnS.nil _ _, HL.out.aft⟩
    · have HE := Lib.hid (show rnE G zs = 0 by unfold rnE; rw [if_neg (by rw [hk]; simp), if_neg (by omega)])
      have e1 := Lib.hid (show rnK C G zs = drvKey C keyS [] from if_pos HE.out)
      have e2 := Lib.hid (show rnC C G zs = drvKey C chainS [] from if_pos HE.out)
      have e3 := Lib.hid (show rnG G zs = G + 1 from if_pos HE.out)
      have e4 := Lib.hid (show rnZ G zs = zs from if_pos HE.out)
      have hb8 : (((G : Nat) : Int) == 4294967296) = false := by simpa using h8
      have HGk := Lib.hid k1
      have HX := Lib.hid (drvKey_length C keyS [])
      have HY := Lib.hid (drvKey_length C chainS [])
      generalize drvKey C keyS [] = X at *
      generalize drvKey C chainS [] = Y at *
      rw [hk]
      clear hk k1 h8
      go_wp2_with (first | (refine wpList_load_rowG (by kernel_rfl) 71 (.tmp 1) rfl _ rfl _ _ _ _ (HL.out.get 0 rfl) Tryd.underlying71 rfl (rat_info HC.out) ?_))
      refine (HCl.out _ HL.out.aft).mono ?_
      rintro r w3 ⟨v, rfl, ho, h3⟩
      obtain ⟨ao, cap', rfl⟩ := ho.shape
      have HO := Lib.hid (ho.mono HL.out.aft.size)
      replace HL := Lib.hid (HL.out.call h3)
      clear h3 ho hn HCl hb8
      go_wp2_with (first | (refine wpList_store_ratZ rfl (.tmp 1) (.tmp 18) _ (C) (G) (.slice ao zs.length cap') HC.out rfl rfl rfl rfl _ (HL.out.get 0 rfl) (rat_old HC.out) ?_; intro w' b1 b2 b3; (try replace HO := Lib.hid (HO.out.stored (HL.out.get 0 rfl) (by decide) b2.out)); (try replace HO2 := Lib.hid (HO2.out.stored (HL.out.get 0 rfl) (by decide) b2.out)); (try replace HOK := Lib.hid (HOK.out.stored (HL.out.get 0 rfl) (by decide) b2.out)); replace HL := Lib.hid (HL.out.store 0 rfl b1 b2 b3); clear b1 b2 b3; try simp only [List.nil_append, List.cons_append, List.set_cons_zero, List.set_cons_succ] at HL) | (refine wpList_load_keyG (by kernel_rfl) (.tmp 20) rfl _ _ rfl C (rat_c (HL.out.get 0 rfl) HC.out) HC.out ?_))
      refine (D1.out _ HL.out.aft).mono ?_
      rintro r w4 ⟨rfl, h4⟩
      replace HO := Lib.hid (HO.out.aft h4)
      replace HL := Lib.hid (HL.out.call h4)
      clear h4
      go_wp2_with (first | (refine wpList_allocO rfl 23 rfl (.cells key0 23) alloc_key ?_; intro w' aa gg zz; (try replace HO := Lib.hid (HO.out.aft aa)); (try replace HO2 := Lib.hid (HO2.out.aft aa)); (try replace HOK := Lib.hid (HOK.out.aft aa)); replace HL := Lib.hid (HL.out.alloc aa gg.out); clear aa gg zz; try simp only [List.nil_append, List.cons_append, List.set_cons_zero, List.set_cons_succ] at HL) | (refine wpList_store_keyZ rfl (.tmp 5) (.tmp 23) rfl _ X HX.out rfl rfl _ (HL.out.get 3 rfl) key0_size ?_; intro w' b1 b2 b3; (try replace HO := Lib.hid (HO.out.stored (HL.out.get 3 rfl) (by decide) b2.out)); (try replace HO2 := Lib.hid (HO2.out.stored (HL.out.get 3 rfl) (by decide) b2.out)); (try replace HOK := Lib.hid (HOK.out.stored (HL.out.get 3 rfl) (by decide) b2.out)); replace HL := Lib.hid (HL.out.store 3 rfl b1 b2 b3); clear b1 b2 b3; try simp only [List.nil_append, List.cons_append, List.set_cons_zero, List.set_cons_succ] at HL) | (refine wpList_load_keyG (by kernel_rfl) (.tmp 26) rfl _ _ rfl C (rat_c (HL.out.get 0 rfl) HC.out) HC.out ?_))
      refine (D2.out _ HL.out.aft).mono ?_
      rintro r w5 ⟨rfl, h5⟩
      replace HO := Lib.hid (HO.out.aft h5)
      replace HL := Lib.hid (HL.out.call h5)
      clear h5
      have hN3 : (G : Int) + 1 < 18446744073709551616 := by have := HGk.out; omega
      go_wp2_with (first | (refine wpList_store_ratC rfl (.tmp 31) (.tmp 29) _ C G _ HC.out rfl Y HY.out rfl rfl (HL.out.get 0 rfl) ?_; intro w6 b1 b2 b3; replace HO := Lib.hid (HO.out.stored (HL.out.get 0 rfl) (by decide) b2.out); replace HL := Lib.hid (HL.out.store 0 rfl b1 b2 b3); clear b1 b2 b3; try simp only [List.nil_append, List.cons_append, List.set_cons_zero, List.set_cons_succ] at HL; have hn := rat_n (HL.out.get 0 rfl) HY.out) | (refine wpList_store_ratG rfl (.tmp 35) (.tmp 34) _ Y G _ HY.out rfl (G + 1) rfl rfl (HL.out.get 0 rfl) ?_; intro w7 b1 b2 b3; replace HO := Lib.hid (HO.out.stored (HL.out.get 0 rfl) (by decide) b2.out); replace HL := Lib.hid (HL.out.store 0 rfl b1 b2 b3); clear b1 b2 b3; try simp only [List.nil_append, List.cons_append, List.set_cons_zero, List.set_cons_succ] at HL))
      clear hN3
      refine wp_region_lex (fun w' => w'.heap[w4.heap.size]? = some (.cells (bv X).toArray 23 (0, 0)) ∧ w'.heap[w.heap.size]? = some (.cells (ratL Y (G + 1) (.slice ao zs.length cap')).toArray 71 (0, 0))) (fun i => ([2] : List Nat).contains i) 3 (by kernel_rfl) (by kernel_rfl) ⟨HL.out.get 3 rfl, HL.out.get 0 rfl⟩ ?_
      change wpLx _ _ _ _ _ _ _ _ _ w7.drew
      replace HO := Lib.hid (HO.out.aft (show Aft w7 w7.drew from (Below.refl _ _).drew))
      replace HL := Lib.hid (HL.out.call (show Aft w7 w7.drew from (Below.refl _ _).drew))
      generalize w7.drew = wd at *
      refine lx_load_agg rfl (by kernel_rfl) 23 (.tmp 5) rfl ⟨w4.heap.size, 0, none⟩ rfl (bv X).toArray (fun w' h => run_loadVar_row w' _ _ _ _ _ _ h.1 Tryd.underlying23 rfl (key_info HX.out)) ?_
      simp only [Act.put, List.setIfInBounds_toArray, List.set_cons_succ, List.set_cons_zero]
      refine lx_load_agg rfl (by kernel_rfl) 71 (.tmp 1) rfl ⟨w.heap.size, 0, none⟩ rfl (ratL Y (G + 1) (.slice ao zs.length cap')).toArray (fun w' h => run_loadVar_row w' _ _ _ _ _ _ h.2 Tryd.underlying71 rfl (rat_info HY.out)) ?_
      simp only [Act.put, List.setIfInBounds_toArray, List.set_cons_succ, List.set_cons_zero]
      refine lx_eff rfl (by kernel_rfl) ?_
      intro Kx hKx
      have hi1 := HL.out.inc 0 1 _ _ _ _ (by decide) rfl rfl
      have hi2 := HL.out.inc 1 3 _ _ _ _ (by decide) rfl rfl
      refine wp_of_list (ops := #[]) (wpList_store_keyZ rfl (.tmp 2) (.tmp 36) rfl _ X HX.out rfl rfl key0 (HL.out.get 1 rfl) key0_size ?_)
      intro w8 b1 b2 b3
      refine ⟨rfl, hKx _ _ ⟨⟨(b2.out w4.heap.size (by omega)).trans (HL.out.get 3 rfl), (b2.out w.heap.size (by omega)).trans (HL.out.get 0 rfl)⟩, ?_⟩⟩
      replace HO := Lib.hid (HO.out.stored (HL.out.get 1 rfl) (by decide) b2.out)
      replace HL := Lib.hid (HL.out.store 1 rfl b1 b2 b3)
      clear b1 b2 b3 hKx hi1 hi2
      try simp only [List.nil_append, List.cons_append, List.set_cons_zero, List.set_cons_succ] at HL
      refine lx_done ?_
      simp only [Act.put]
      go_wp2_with (first | (refine wpList_store_ratZ rfl (.tmp 3) (.tmp 37) _ (Y) (G + 1) (.slice ao zs.length cap') HY.out rfl rfl rfl rfl _ (HL.out.get 2 rfl) (rat_old List.length_replicate) ?_; intro w' b1 b2 b3; (try replace HO := Lib.hid (HO.out.stored (HL.out.get 2 rfl) (by decide) b2.out)); (try replace HO2 := Lib.hid (HO2.out.stored (HL.out.get 2 rfl) (by decide) b2.out)); (try replace HOK := Lib.hid (HOK.out.stored (HL.out.get 2 rfl) (by decide) b2.out)); replace HL := Lib.hid (HL.out.store 2 rfl b1 b2 b3); clear b1 b2 b3; try simp only [List.nil_append, List.cons_append, List.set_cons_zero, List.set_cons_succ] at HL))
      refine bodyPost_ret (results_cell2 rfl _ _ _ _ _ _ _ _ _ _ _ _ rfl rfl (HL.out.get 1 rfl) (HL.out.get 2 rfl) Tryd.underlying23 rfl (key_info HX.out) Tryd.underlying71 rfl (rat_info HY.out)) rfl ?_
      exact ⟨_, by rw [HE.out, e1.out, e2.out, e3.out]; rfl, by rw [e4.out]; exact HO.out, HL.out.aft⟩
  · have HE := Lib.hid (show rnE G zs = 1 by unfold rnE; rw [if_pos (by rw [hk]; decide)])
    have e1 := Lib.hid (show rnK C G zs = List.replicate 32 0 from if_neg (by rw [HE.out]; decide))
    have e2 := Lib.hid (show rnC C G zs = List.replicate 32 0 from if_neg (by rw [HE.out]; decide))
    have e3 := Lib.hid (show rnG G zs = 0 from if_neg (by rw [HE.out]; decide))
    have e4 := Lib.hid (show rnZ G zs = [] from if_neg (by rw [HE.out]; decide))
    rw [hk]
    clear hk
    go_wp2_with (first | (refine wpList_store_keyZ0 rfl (.tmp 2) (.tmp 10) rfl _ rfl rfl _ (HL.out.get 1 rfl) key0_size ?_; intro w' b1 b2 b3; (try replace HO := Lib.hid (HO.out.stored (HL.out.get 1 rfl) (by decide) b2.out)); (try replace HO2 := Lib.hid (HO2.out.stored (HL.out.get 1 rfl) (by decide) b2.out)); (try replace HOK := Lib.hid (HOK.out.stored (HL.out.get 1 rfl) (by decide) b2.out)); replace HL := Lib.hid (HL.out.store 1 rfl b1 b2 b3); clear b1 b2 b3; try simp only [List.nil_append, List.cons_append, List.set_cons_zero, List.set_cons_succ] at HL) | (refine wpList_buildO (by kernel_rfl) 71 #[] rfl #[] (by kernel_rfl) _ (build_rat0) ?_) | (refine wpList_store_ratZ rfl (.tmp 3) (.tmp 11) _ (List.replicate 32 0) (0) (.slice none 0 0) List.length_replicate rfl rfl rfl rfl _ (HL.out.get 2 rfl) (rat_old List.length_replicate) ?_; intro w' b1 b2 b3; (try replace HO := Lib.hid (HO.out.stored (HL.out.get 2 rfl) (by decide) b2.out)); (try replace HO2 := Lib.hid (HO2.out.stored (HL.out.get 2 rfl) (by decide) b2.out)); (try replace HOK := Lib.hid (HOK.out.stored (HL.out.get 2 rfl) (by decide) b2.out)); replace HL := Lib.hid (HL.out.store 2 rfl b1 b2 b3); clear b1 b2 b3; try simp only [List.nil_append, List.cons_append, List.set_cons_zero, List.set_cons_succ] at HL))
    refine bodyPost_ret (results_cell2 rfl _ _ _ _ _ _ _ _ _ _ _ _ rfl rfl (HL.out.get 1 rfl) (HL.out.get 2 rfl) Tryd.underlying23 rfl (key_info List.length_replicate) Tryd.underlying71 rfl (rat_info List.length_replicate)) rfl ?_
    exact ⟨.slice none 0 0, by rw [HE.out, e1.out, e2.out, e3.out]; rfl, by rw [e4.out]; exact OwnS.nil _ _, HL.out.aft⟩
end Go.Proofs.YtanodhagpegbfaaDoor
