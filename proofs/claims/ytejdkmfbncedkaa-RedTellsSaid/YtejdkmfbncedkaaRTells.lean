/- RedTells of law 11, walked. -/
import Derived.Test.YtejdkmfbncedkaaR11e
import Derived.Test.YtejdkmfbncedkaaN12
import Derived.Test.YtejdkmfbncedkaaQ
import Derived.Deep.Cut
namespace Go.Proofs.Ytejdkmfbncedkaa
open Go Go.RowKit
set_option linter.unusedSimpArgs false
set_option maxRecDepth 100000 in
set_option maxHeartbeats 8000000 in
theorem redTells_any (kind : Int) (vi vl : Value) (ids : List Int) (ls : List (List Int)) (id : Int) (w : World) (hi : Rd w vi (zv ids)) (hl : RdLs w vl ls) :
    Calls Try.prog 6 #[.int .i64 kind, .agg (shpL vi vl).toArray, .int .i64 id] w fun e w' => e = .returned (.bool true) ∧ Aft w w' := by
  have HFw := Lib.hid (fun (wx : World) (ha : Aft w wx) => tfew_any vi vl ids ls wx (hi.grow ha) (hl.aft ha))
  have HC1 := Lib.hid (fun (hs : Small ids ls) (wx : World) (ha : Aft w wx) => rnodes_any kind vi vl ids ls wx (hi.grow ha) (hl.aft ha) hs)
  have HC2 := Lib.hid (fun (hs : Small ids ls) (wx : World) (ha : Aft w wx) => rNodes_any kind vi vl ids ls wx (hi.grow ha) (hl.aft ha) hs)
  have HC3 := Lib.hid (fun (hs : Small ids ls) (wx : World) (ha : Aft w wx) => rPath_any kind vi vl ids ls id wx (hi.grow ha) (hl.aft ha) hs)
  have HC4 := Lib.hid (fun (hs : Small ids ls) (wx : World) (ha : Aft w wx) => rPathD_any kind vi vl ids ls id wx (hi.grow ha) (hl.aft ha) hs)
  have HC5 := Lib.hid (fun (hs : Small ids ls) (wx : World) (ha : Aft w wx) => rBeside_any kind vi vl ids ls id wx (hi.grow ha) (hl.aft ha) hs)
  have HC6 := Lib.hid (fun (hs : Small ids ls) (wx : World) (ha : Aft w wx) => rBesideD_any kind vi vl ids ls id wx (hi.grow ha) (hl.aft ha) hs)
  have HC7 := Lib.hid (fun (hs : Small ids ls) (wx : World) (ha : Aft w wx) => high_any kind vi vl ids ls wx (hi.grow ha) (hl.aft ha) hs)
  have HC8 := Lib.hid (fun (hs : Small ids ls) (wx : World) (ha : Aft w wx) => rHighD_any kind vi vl ids ls wx (hi.grow ha) (hl.aft ha) hs)
  obtain ⟨ao, cap, rfl, -, -⟩ := hi.numS
  obtain ⟨bo, dap, rfl, -⟩ := hl.shape
  have HL := Lib.hid (Led.start w)
  clear hi hl
  go_enter Try.func6, Try.ntmps6
  go_wp2_with (first | (refine wpList_boxO rfl 26 (.tmp 1) rfl (.agg (shpL (.slice ao ids.length cap) (.slice bo ls.length dap)).toArray) rfl (.cells (shpL (.slice ao ids.length cap) (.slice bo ls.length dap)).toArray 26) (box_shp _) ?_; intro w' aa gg zz; replace HL := Lib.hid (HL.out.alloc aa gg.out); clear aa gg zz; try simp only [List.nil_append, List.cons_append, List.set_cons_zero, List.set_cons_succ] at HL))
  refine (live11_any _).mono ?_
  rintro e w1 ⟨rfl, h1⟩
  replace HL := Lib.hid (HL.out.call h1)
  clear h1
  go_wp2_with (first | (refine wpList_load_rowG (by kernel_rfl) 26 (.tmp 4) rfl _ rfl _ _ _ _ (HL.out.get 0 rfl) Try.underlying26 rfl (shp_info _ _) ?_))
  refine (HFw.out _ HL.out.aft).mono ?_
  rintro e w2 ⟨rfl, h2⟩
  replace HL := Lib.hid (HL.out.call h2)
  clear h2 HFw
  have hc0 := shp_i (HL.out.get 0 rfl)
  cases hf : fewT ids ls with
  | false =>
    clear hf HC1 HC2 HC3 HC4 HC5 HC6 HC7 HC8
    go_wp2_with fail
    go_ret
    exact ⟨rfl, HL.out.aft⟩
  | true =>
    have HS := Lib.hid (fewT_small hf)
    clear hf
    by_cases hbad : 120 < ids.length ∧ ids.length ≤ 1000
    · have hb1 : (120 : Int) < (ids.length : Nat) := by omega
      have hb2 : ((ids.length : Nat) : Int) ≤ 1000 := by omega
      clear hbad HC1 HC2 HC3 HC4 HC5 HC6 HC7 HC8
      go_wp2_with fail
      go_ret
      exact ⟨rfl, HL.out.aft⟩
    have hgo : ¬ (120 : Int) < (ids.length : Nat) ∨ ((120 : Int) < (ids.length : Nat) ∧ ¬ ((ids.length : Nat) : Int) ≤ 1000) := by omega
    clear hbad
    have HNl := Lib.hid (show (nodesL kind ids ls).length ≤ 1000000 ∨ ¬ mayE kind ids ls = 0 by
      by_cases h0 : mayE kind ids ls = 0
      · left
        have hok := (mayE_zero.1 h0).2
        have h := (below_length kind ls ls.length 0 []).2
        have h9 : 3 ^ ls.length ≤ 3 ^ 9 := Nat.pow_le_pow_right (by decide) (lv_nine2 hok)
        unfold nodesL
        split
        · simp
        · simp only [List.length_nil] at h
          omega
      · exact .inr h0)
    have HMo := Lib.hid (mayE_or kind ids ls)
    rcases hgo with hgo | ⟨hgo, hgo2⟩
    all_goals
      go_wp2_with (first | (refine wpList_dstT 43 rfl ?_; (refine wpList_load_rowG (by kernel_rfl) 26 (.tmp 4) rfl _ rfl _ _ _ _ (HL.out.get 0 rfl) Try.underlying26 rfl (shp_info _ _) ?_)))
      refine (HC1.out HS.out _ HL.out.aft).mono ?_
      rintro e w3 ⟨v3, ps, rfl, ho3, hf3, h3⟩
      obtain ⟨x3, y3, rfl⟩ := ho3.shape
      replace HL := Lib.hid (HL.out.call h3)
      have HN := Lib.hid ho3
      have HFn := Lib.hid hf3
      clear h3 ho3 hf3 HC1 hc0
      go_wp2_with (first | (refine wpList_load_rowG (by kernel_rfl) 26 (.tmp 4) rfl _ rfl _ _ _ _ (HL.out.get 0 rfl) Try.underlying26 rfl (shp_info _ _) ?_))
      refine (HC2.out HS.out _ HL.out.aft).mono ?_
      rintro e w4 ⟨v4, qs, rfl, ho4, hf4, h4⟩
      obtain ⟨x4, y4, rfl⟩ := ho4.shape
      replace HL := Lib.hid (HL.out.call h4)
      replace HN := Lib.hid (HN.out.aft h4)
      have HN4 := Lib.hid ho4
      have HF4 := Lib.hid hf4
      clear h4 ho4 hf4 HC2
      go_wp2_with (first | (refine wpList_load_rowG (by kernel_rfl) 26 (.tmp 4) rfl _ rfl _ _ _ _ (HL.out.get 0 rfl) Try.underlying26 rfl (shp_info _ _) ?_))
      refine (HC3.out HS.out _ HL.out.aft).mono ?_
      rintro e w5 ⟨v5, rfl, ho5, h5⟩
      obtain ⟨x5, y5, rfl⟩ := ho5.shape
      replace HL := Lib.hid (HL.out.call h5)
      replace HN := Lib.hid (HN.out.aft h5)
      replace HN4 := Lib.hid (HN4.out.aft h5)
      have HO5 := Lib.hid ho5
      clear h5 ho5 HC3
      go_wp2_with (first | (refine wpList_load_rowG (by kernel_rfl) 26 (.tmp 4) rfl _ rfl _ _ _ _ (HL.out.get 0 rfl) Try.underlying26 rfl (shp_info _ _) ?_))
      refine (HC4.out HS.out _ HL.out.aft).mono ?_
      rintro e w6 ⟨v6, rfl, ho6, h6⟩
      obtain ⟨x6, y6, rfl⟩ := ho6.shape
      replace HL := Lib.hid (HL.out.call h6)
      replace HN := Lib.hid (HN.out.aft h6)
      replace HN4 := Lib.hid (HN4.out.aft h6)
      replace HO5 := Lib.hid (HO5.out.aft h6)
      have HO6 := Lib.hid ho6
      clear h6 ho6 HC4
      go_wp2_with (first | (refine wpList_load_rowG (by kernel_rfl) 26 (.tmp 4) rfl _ rfl _ _ _ _ (HL.out.get 0 rfl) Try.underlying26 rfl (shp_info _ _) ?_))
      refine (HC5.out HS.out _ HL.out.aft).mono ?_
      rintro e w7 ⟨v7, rfl, ho7, h7⟩
      obtain ⟨x7, y7, rfl⟩ := ho7.shape
      replace HL := Lib.hid (HL.out.call h7)
      replace HN := Lib.hid (HN.out.aft h7)
      replace HN4 := Lib.hid (HN4.out.aft h7)
      replace HO5 := Lib.hid (HO5.out.aft h7)
      replace HO6 := Lib.hid (HO6.out.aft h7)
      have HO7 := Lib.hid ho7
      clear h7 ho7 HC5
      go_wp2_with (first | (refine wpList_load_rowG (by kernel_rfl) 26 (.tmp 4) rfl _ rfl _ _ _ _ (HL.out.get 0 rfl) Try.underlying26 rfl (shp_info _ _) ?_))
      refine (HC6.out HS.out _ HL.out.aft).mono ?_
      rintro e w8 ⟨v8, rfl, ho8, h8⟩
      obtain ⟨x8, y8, rfl⟩ := ho8.shape
      replace HL := Lib.hid (HL.out.call h8)
      replace HN := Lib.hid (HN.out.aft h8)
      replace HN4 := Lib.hid (HN4.out.aft h8)
      replace HO5 := Lib.hid (HO5.out.aft h8)
      replace HO6 := Lib.hid (HO6.out.aft h8)
      replace HO7 := Lib.hid (HO7.out.aft h8)
      have HO8 := Lib.hid ho8
      clear h8 ho8 HC6
      go_wp2_with (first | (refine wpList_load_rowG (by kernel_rfl) 26 (.tmp 4) rfl _ rfl _ _ _ _ (HL.out.get 0 rfl) Try.underlying26 rfl (shp_info _ _) ?_))
      refine (HC7.out HS.out _ HL.out.aft).mono ?_
      rintro e w9 ⟨rfl, h9⟩
      replace HL := Lib.hid (HL.out.call h9)
      replace HN := Lib.hid (HN.out.aft h9)
      replace HN4 := Lib.hid (HN4.out.aft h9)
      replace HO5 := Lib.hid (HO5.out.aft h9)
      replace HO6 := Lib.hid (HO6.out.aft h9)
      replace HO7 := Lib.hid (HO7.out.aft h9)
      replace HO8 := Lib.hid (HO8.out.aft h9)
      clear h9 HC7
      go_wp2_with (first | (refine wpList_load_rowG (by kernel_rfl) 26 (.tmp 4) rfl _ rfl _ _ _ _ (HL.out.get 0 rfl) Try.underlying26 rfl (shp_info _ _) ?_))
      refine (HC8.out HS.out _ HL.out.aft).mono ?_
      rintro e wa ⟨rfl, ha⟩
      replace HL := Lib.hid (HL.out.call ha)
      replace HN := Lib.hid (HN.out.aft ha)
      replace HN4 := Lib.hid (HN4.out.aft ha)
      replace HO5 := Lib.hid (HO5.out.aft ha)
      replace HO6 := Lib.hid (HO6.out.aft ha)
      replace HO7 := Lib.hid (HO7.out.aft ha)
      replace HO8 := Lib.hid (HO8.out.aft ha)
      clear ha HC8
      have HEq := Lib.hid (show ps.map Prod.fst = qs.map Prod.fst by rw [HFn.out, HF4.out])
      have HPl := Lib.hid (show ps.length ≤ 1000000 by
        have h := HFn.out
        have h1 := HNl.out
        rw [← List.length_map (f := Prod.fst), h]
        split
        · rename_i h0
          exact h1.resolve_right fun q => q h0
        · simp)
      have HPl5 := Lib.hid (show (rpathW kind ids ls id).length ≤ 9223372036854775807 by
        obtain ⟨_, _, _, h1, h2⟩ := HO5.out.rd.numS
        omega)
      have HPl7 := Lib.hid (show (rbesW kind ids ls id).length ≤ 9223372036854775807 by
        obtain ⟨_, _, _, h1, h2⟩ := HO7.out.rd.numS
        omega)
      have HC35 := Lib.hid (fun (wx : World) (hx : Aft wa wx) => refSame11_any _ _ ps qs wx (HN.out.rd.aft hx) (HN4.out.rd.aft hx) HPl.out)
      have HC37 := Lib.hid (fun (wx : World) (hx : Aft wa wx) => redSame_any _ _ ps qs wx (HN.out.rd.aft hx) (HN4.out.rd.aft hx) HPl.out)
      have HC36a := Lib.hid (fun (wx : World) (hx : Aft wa wx) => sameIntsW_any _ _ _ _ wx (HO5.out.rd.grow hx) (HO6.out.rd.grow hx) HPl5.out)
      have HC36b := Lib.hid (fun (wx : World) (hx : Aft wa wx) => sameIntsW_any _ _ _ _ wx (HO7.out.rd.grow hx) (HO8.out.rd.grow hx) HPl7.out)
      clear HN HN4 HO5 HO6 HO7 HO8 HFn HF4 HNl HPl HPl5 HPl7
      generalize rpathE kind ids ls id = pe at *
      generalize mayE kind ids ls = me at *
      generalize highN kind ids ls = hg at *
      generalize rpathW kind ids ls id = W at *
      generalize rbesW kind ids ls id = B at *
      go_wp2_with fail
      refine (HC35.out _ (Aft.refl _)).mono ?_
      rintro e wb ⟨rfl, hb⟩
      rw [decide_eq_true HEq.out]
      replace HL := Lib.hid (HL.out.call hb)
      have HA := Lib.hid hb
      clear hb HC35
      go_wp2_with fail
      refine (HC36a.out _ HA.out).mono ?_
      rintro e wc ⟨rfl, hb⟩
      replace HL := Lib.hid (HL.out.call hb)
      replace HA := Lib.hid (Aft.trans HA.out hb)
      clear hb HC36a
      go_wp2_with fail
      refine (HC36b.out _ HA.out).mono ?_
      rintro e wd ⟨rfl, hb⟩
      replace HL := Lib.hid (HL.out.call hb)
      replace HA := Lib.hid (Aft.trans HA.out hb)
      clear hb HC36b
      go_wp2_with fail
      refine (HC37.out _ HA.out).mono ?_
      rintro e we ⟨rfl, hb⟩
      rw [decide_eq_true HEq.out]
      replace HL := Lib.hid (HL.out.call hb)
      clear hb HC37
      go_wp2_with fail
      go_ret
      exact ⟨rfl, HL.out.aft⟩
end Go.Proofs.Ytejdkmfbncedkaa
