/- plan.Most, walked, of two trees that may be. -/
import Derived.Test.YtfgammcefaomeaaP10
namespace Go.Proofs.Ytfgammcefaomeaa
open Go Go.RowKit
set_option linter.unusedSimpArgs false
theorem most_num (n a b : Nat) (hn : n ≤ 1000) (ha : a ≤ 40) (hb : b ≤ 40) : wrap64 (4 * (2 * (n : Int) + 1) * (max (a : Int) (b : Int) + 2)) = ((4 * (2 * n + 1) * (max a b + 2) : Nat) : Int) := by
  obtain ⟨m, hm⟩ : ∃ m : Nat, m = max a b := ⟨_, rfl⟩
  have h1 : max (a : Int) (b : Int) = (m : Int) := by omega
  have h2 : 4 * (2 * n + 1) * (m + 2) ≤ 4 * 2001 * 42 := Nat.mul_le_mul (by omega) (by omega)
  have e : 4 * (2 * (n : Int) + 1) * ((m : Int) + 2) = ((4 * (2 * n + 1) * (m + 2) : Nat) : Int) := by simp
  rw [h1, e, ← hm]
  exact IntWalk.wrap64_in _ ⟨by omega, by omega⟩
set_option maxRecDepth 100000 in
set_option maxHeartbeats 4000000 in
theorem most_any (vi0 vl0 vi vl : Value) (ids0 : List Int) (ls0 : List (List Int)) (ids : List Int) (ls : List (List Int)) (n : Nat) (w : World) (hi0 : Rd w vi0 (zv ids0)) (hl0 : RdLs w vl0 ls0) (hi : Rd w vi (zv ids)) (hl : RdLs w vl ls) (h0 : OkT ids0 ls0) (h1 : OkT ids ls) (hn : n ≤ 1000) :
    Calls Try.prog 30 #[.agg (shpL vi0 vl0).toArray, .agg (shpL vi vl).toArray, .int .i64 (n : Int)] w fun e w' => e = .returned (.tuple #[.int .i64 ((4 * (2 * n + 1) * (max ls0.length ls.length + 2) : Nat) : Int), .int .i64 0]) ∧ Aft w w' := by
  have HC0 := Lib.hid (fun (wx : World) (ha : Aft w wx) => tcheck_any vi0 vl0 ids0 ls0 wx (hi0.grow ha) (hl0.aft ha) (small_of h0))
  have HC1 := Lib.hid (fun (wx : World) (ha : Aft w wx) => tcheck_any vi vl ids ls wx (hi.grow ha) (hl.aft ha) (small_of h1))
  have HK0 := Lib.hid (chkT_zero.2 h0)
  have HK1 := Lib.hid (chkT_zero.2 h1)
  have hb0 := lv_nine2 h0
  have hb1 := lv_nine2 h1
  obtain ⟨ao, ac, rfl, -, -⟩ := hi0.numS
  obtain ⟨bo, bc, rfl, -⟩ := hl0.shape
  obtain ⟨co, cc, rfl, -, -⟩ := hi.numS
  obtain ⟨dd, dc, rfl, -⟩ := hl.shape
  have HL := Lib.hid (Led.start w)
  clear hi0 hl0 hi hl h0 h1
  have hn0 : ¬ (n : Int) < 0 := by omega
  have hn1 : ¬ (100000 : Int) < (n : Int) := by omega
  go_enter Try.func30, Try.ntmps30
  go_wp2_with (first | (refine wpList_dstT 3 rfl ?_; refine wpList_boxO rfl 25 (.tmp 0) rfl (.agg (shpL (.slice ao ids0.length ac) (.slice bo ls0.length bc)).toArray) rfl (.cells (shpL (.slice ao ids0.length ac) (.slice bo ls0.length bc)).toArray 25) (box_shp _) ?_; intro w1 aa gg zz; replace HL := Lib.hid (HL.out.alloc aa gg.out); clear aa gg zz; try simp only [List.nil_append, List.cons_append, List.set_cons_zero, List.set_cons_succ] at HL) | (refine wpList_dstT 4 rfl ?_; refine wpList_boxO rfl 25 (.tmp 1) rfl (.agg (shpL (.slice co ids.length cc) (.slice dd ls.length dc)).toArray) rfl (.cells (shpL (.slice co ids.length cc) (.slice dd ls.length dc)).toArray 25) (box_shp _) ?_; intro w2 aa gg zz; replace HL := Lib.hid (HL.out.alloc aa gg.out); clear aa gg zz; try simp only [List.nil_append, List.cons_append, List.set_cons_zero, List.set_cons_succ] at HL) | (refine wpList_dstT 8 rfl ?_; refine wpList_load_rowG (by kernel_rfl) 25 (.tmp 3) rfl _ rfl _ _ _ _ (HL.out.get 0 rfl) Try.underlying25 rfl (shp_info _ _) ?_))
  refine (HC0.out _ HL.out.aft).mono ?_
  rintro e w3 ⟨rfl, h3⟩
  rw [HK0.out]
  replace HL := Lib.hid (HL.out.call h3)
  clear h3 HC0
  go_wp2_with (first | (refine wpList_dstT 12 rfl ?_; refine wpList_load_rowG (by kernel_rfl) 25 (.tmp 4) rfl _ rfl _ _ _ _ (HL.out.get 1 rfl) Try.underlying25 rfl (shp_info _ _) ?_))
  refine (HC1.out _ HL.out.aft).mono ?_
  rintro e w4 ⟨rfl, h4⟩
  rw [HK1.out]
  replace HL := Lib.hid (HL.out.call h4)
  clear h4 HC1
  have c0 := shp_l (HL.out.get 0 rfl)
  have c1 := shp_l (HL.out.get 1 rfl)
  go_wp2_with fail
  refine bodyPost_ret (results_tmp2 rfl _ _ _) rfl ?_
  refine ⟨?_, HL.out.aft⟩
  have e := most_num n ls0.length ls.length hn (by omega) (by omega)
  rw [← e]
  rfl
end Go.Proofs.Ytfgammcefaomeaa
