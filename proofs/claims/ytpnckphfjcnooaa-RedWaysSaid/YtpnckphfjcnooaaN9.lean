/- red.may, red.Nodes; live of law 11: it answers true. -/
import Derived.Test.YtpnckphfjcnooaaN8
import Derived.Test.YtpnckphfjcnooaaT11
namespace Go.Proofs.Ytpnckphfjcnooaa
open Go Go.RowKit
set_option linter.unusedSimpArgs false
def mayE (kind : Int) (ids : List Int) (ls : List (List Int)) : Int := if kind = 1 ∨ kind = 2 then chkT ids ls else 1
theorem mayE_zero {kind : Int} {ids : List Int} {ls : List (List Int)} : mayE kind ids ls = 0 ↔ (kind = 1 ∨ kind = 2) ∧ OkT ids ls := by
  unfold mayE
  split
  · rename_i h
    rw [chkT_zero]
    exact ⟨fun q => ⟨h, q⟩, fun q => q.2⟩
  · rename_i h
    exact ⟨fun q => absurd q (by decide), fun q => absurd q.1 h⟩
theorem mayE_or (kind : Int) (ids : List Int) (ls : List (List Int)) : mayE kind ids ls = 0 ∨ mayE kind ids ls = 1 := by
  unfold mayE
  split
  · exact chkT_or ids ls
  · exact .inr rfl
set_option maxRecDepth 100000 in
set_option maxHeartbeats 1000000 in
theorem may_any (kind : Int) (vi vl : Value) (ids : List Int) (ls : List (List Int)) (w : World) (hi : Rd w vi (zv ids)) (hl : RdLs w vl ls) (hs : Small ids ls) :
    Calls Try.prog 53 #[.int .i64 kind, .agg (shpL vi vl).toArray] w fun e w' => e = .returned (.int .i64 (mayE kind ids ls)) ∧ Aft w w' := by
  have HCk := Lib.hid (fun (wx : World) (ha : Aft w wx) => tcheck_any vi vl ids ls wx (hi.grow ha) (hl.aft ha) hs)
  obtain ⟨ao, cap, rfl, -, -⟩ := hi.numS
  obtain ⟨bo, dap, rfl, -⟩ := hl.shape
  have HL := Lib.hid (Led.start w)
  clear hi hl hs
  by_cases h12 : kind = 1 ∨ kind = 2
  · have HE := Lib.hid (show mayE kind ids ls = chkT ids ls from if_pos h12)
    rcases h12 with rfl | rfl
    all_goals
      go_enter Try.func53, Try.ntmps53
      go_wp2_with (first | (refine wpList_boxO rfl 26 (.tmp 1) rfl (.agg (shpL (.slice ao ids.length cap) (.slice bo ls.length dap)).toArray) rfl (.cells (shpL (.slice ao ids.length cap) (.slice bo ls.length dap)).toArray 26) (box_shp _) ?_; intro w' aa gg zz; replace HL := Lib.hid (HL.out.alloc aa gg.out); clear aa gg zz; try simp only [List.nil_append, List.cons_append, List.set_cons_zero, List.set_cons_succ] at HL) | (refine wpList_load_rowG (by kernel_rfl) 26 (.tmp 3) rfl _ rfl _ _ _ _ (HL.out.get 0 rfl) Try.underlying26 rfl (shp_info _ _) ?_))
      refine (HCk.out _ HL.out.aft).mono ?_
      rintro e w2 ⟨rfl, h2⟩
      replace HL := Lib.hid (HL.out.call h2)
      clear h2
      go_wp2_with fail
      go_ret
      exact ⟨by rw [HE.out]; rfl, HL.out.aft⟩
  · have HE := Lib.hid (show mayE kind ids ls = 1 from if_neg h12)
    have h1 : ¬ kind = 1 := fun q => h12 (.inl q)
    have h2 : ¬ kind = 2 := fun q => h12 (.inr q)
    have hb1 : (kind != 1) = true := by simp [h1]
    have hb2 : (kind != 2) = true := by simp [h2]
    clear h12
    go_enter Try.func53, Try.ntmps53
    go_wp2_with (first | (refine wpList_boxO rfl 26 (.tmp 1) rfl (.agg (shpL (.slice ao ids.length cap) (.slice bo ls.length dap)).toArray) rfl (.cells (shpL (.slice ao ids.length cap) (.slice bo ls.length dap)).toArray 26) (box_shp _) ?_; intro w' aa gg zz; replace HL := Lib.hid (HL.out.alloc aa gg.out); clear aa gg zz; try simp only [List.nil_append, List.cons_append, List.set_cons_zero, List.set_cons_succ] at HL) | (refine wpList_load_rowG (by kernel_rfl) 26 (.tmp 3) rfl _ rfl _ _ _ _ (HL.out.get 0 rfl) Try.underlying26 rfl (shp_info _ _) ?_))
    go_ret
    exact ⟨by rw [HE.out]; rfl, HL.out.aft⟩
def RNdSays (kind : Int) (ids : List Int) (ls : List (List Int)) (w : World) (e : Ending) (w' : World) : Prop :=
  ∃ v ps, e = .returned (.tuple #[v, .int .i64 (mayE kind ids ls)]) ∧ OwnN w' w.heap.size v ps ∧ ps.map Prod.fst = (if mayE kind ids ls = 0 then nodesL kind ids ls else []) ∧ Aft w w'
set_option maxRecDepth 100000 in
set_option maxHeartbeats 1000000 in
theorem rnodes_any (kind : Int) (vi vl : Value) (ids : List Int) (ls : List (List Int)) (w : World) (hi : Rd w vi (zv ids)) (hl : RdLs w vl ls) (hs : Small ids ls) :
    Calls Try.prog 25 #[.int .i64 kind, .agg (shpL vi vl).toArray] w (RNdSays kind ids ls w) := by
  have HCk := Lib.hid (fun (wx : World) (ha : Aft w wx) => may_any kind vi vl ids ls wx (hi.grow ha) (hl.aft ha) hs)
  have HNd := Lib.hid (fun (hk : kind = 1 ∨ kind = 2) (hok : OkT ids ls) (wx : World) (ha : Aft w wx) => nodes_any kind hk vi vl ids ls wx (hi.grow ha) (hl.aft ha) hok)
  obtain ⟨ao, cap, rfl, -, -⟩ := hi.numS
  obtain ⟨bo, dap, rfl, -⟩ := hl.shape
  have HL := Lib.hid (Led.start w)
  clear hi hl hs
  go_enter Try.func25, Try.ntmps25
  go_wp2_with (first | (refine wpList_boxO rfl 26 (.tmp 1) rfl (.agg (shpL (.slice ao ids.length cap) (.slice bo ls.length dap)).toArray) rfl (.cells (shpL (.slice ao ids.length cap) (.slice bo ls.length dap)).toArray 26) (box_shp _) ?_; intro w' aa gg zz; replace HL := Lib.hid (HL.out.alloc aa gg.out); clear aa gg zz; try simp only [List.nil_append, List.cons_append, List.set_cons_zero, List.set_cons_succ] at HL) | (refine wpList_load_rowG (by kernel_rfl) 26 (.tmp 3) rfl _ rfl _ _ _ _ (HL.out.get 0 rfl) Try.underlying26 rfl (shp_info _ _) ?_))
  refine (HCk.out _ HL.out.aft).mono ?_
  rintro e w2 ⟨rfl, h2⟩
  replace HL := Lib.hid (HL.out.call h2)
  clear h2 HCk
  have HE := Lib.hid (mayE_or kind ids ls)
  by_cases h0 : mayE kind ids ls = 0
  · obtain ⟨hk, hok⟩ := mayE_zero.1 h0
    have HZ := Lib.hid h0
    rw [h0]
    have HNd2 := Lib.hid (HNd.out hk hok)
    clear h0 hk hok HNd HE
    go_wp2_with (first | (refine wpList_load_rowG (by kernel_rfl) 26 (.tmp 3) rfl _ rfl _ _ _ _ (HL.out.get 0 rfl) Try.underlying26 rfl (shp_info _ _) ?_))
    refine (HNd2.out _ HL.out.aft).mono ?_
    rintro e w3 ⟨v, ps, rfl, ho, hf, h3⟩
    have HO := Lib.hid (ho.mono (Below.size HL.out.aft))
    have HF := Lib.hid hf
    replace HL := Lib.hid (HL.out.call h3)
    clear ho hf h3
    go_wp2_with fail
    go_ret2
    refine ⟨v, ps, by rw [HZ.out]; rfl, HO.out, ?_, HL.out.aft⟩
    rw [if_pos HZ.out]
    exact HF.out
  · have h1 : mayE kind ids ls = 1 := HE.out.resolve_left h0
    have HZ := Lib.hid h1
    rw [h1]
    clear h0 h1 HE HNd
    go_wp2_with fail
    go_ret2
    refine ⟨_, [], by rw [HZ.out]; rfl, OwnN.nil _ _, ?_, HL.out.aft⟩
    rw [if_neg (by rw [HZ.out]; decide)]
    rfl
theorem bld3 : bld [1, 2, 3] [] [] = (0, [1, 2, 3], [[3]]) := by decide
theorem ok3 : OkT [1, 2, 3] [[3]] := by decide
theorem nd3a : (nodesL 1 [1, 2, 3] [[3]]).length = 4 := by decide
theorem nd3b : (nodesL 2 [1, 2, 3] [[3]]).length = 5 ∧ ((nodesL 2 [1, 2, 3] [[3]]).getD 2 nd0).rd = true := by decide
theorem may3a : mayE 1 [1, 2, 3] [[3]] = 0 := by decide
theorem may3b : mayE 2 [1, 2, 3] [[3]] = 0 := by decide
theorem fst_len {ps : List (Nd × Value)} {l : List Nd} (h : ps.map Prod.fst = l) : ps.length = l.length := by rw [← h, List.length_map]
set_option maxRecDepth 100000 in
set_option maxHeartbeats 1000000 in
theorem live11_any (w : World) : Calls Try.prog 23 #[] w fun e w' => e = .returned (.bool true) ∧ Aft w w' := by
  have HBu := Lib.hid (fun (wx : World) (v : Value) (h : Rd wx v (zv [1, 2, 3])) => tbuild_any v [1, 2, 3] wx h (by decide))
  have HL := Lib.hid (Led.start w)
  go_enter Try.func23, Try.ntmps23
  go_wp2_with fail
  refine (HBu.out _ _ (lit_own (w := w) (base := 0) [1, 2, 3] (Nat.zero_le _) (by decide)).rd).mono ?_
  rintro e w2 ⟨vi, vl, vs, he, ho, h2⟩
  rw [bld3] at he ho
  dsimp only at he ho
  subst he
  replace HL := Lib.hid (HL.out.call (Aft.trans (Aft.alloc w _) h2))
  obtain ⟨a1, c1, b1, d1, rfl, rfl⟩ := ho.shape
  have HNa := Lib.hid (fun (wx : World) (ha : Aft w2 wx) => rnodes_any 1 _ _ [1, 2, 3] [[3]] wx (ho.ids.rd.grow ha) (ho.lv.rd.aft ha) (small_of ok3))
  have HNb := Lib.hid (fun (wx : World) (ha : Aft w2 wx) => rnodes_any 2 _ _ [1, 2, 3] [[3]] wx (ho.ids.rd.grow ha) (ho.lv.rd.aft ha) (small_of ok3))
  have HA := Lib.hid (Aft.refl w2)
  clear ho h2 HBu
  generalize [1, 2, 3].length = n1 at *
  generalize [[3]].length = n2 at *
  go_wp2_with (first | (refine wpList_allocO rfl 26 rfl (.cells (shpL (.slice none 0 0) (.slice none 0 0)).toArray 26) alloc_shp ?_; intro w' aa gg zz; replace HA := Lib.hid (Aft.trans HA.out aa); replace HL := Lib.hid (HL.out.alloc aa gg.out); clear aa gg zz; try simp only [List.nil_append, List.cons_append, List.set_cons_zero, List.set_cons_succ] at HL) | (refine wpList_store_shp rfl (.tmp 1) (.tmp 10) _ _ _ (.slice a1 n1 c1) (.slice b1 n2 d1) rfl rfl rfl rfl rfl (HL.out.get 0 rfl) ?_; intro w3 q1 q2 q3; replace HA := Lib.hid (q3 _ _ (Nat.le_refl _) HA.out); replace HL := Lib.hid (HL.out.store 0 rfl q1 q2 q3); clear q1 q2 q3; try simp only [List.nil_append, List.cons_append, List.set_cons_zero, List.set_cons_succ] at HL) | (refine wpList_load_rowG (by kernel_rfl) 26 (.tmp 1) rfl _ rfl _ _ _ _ (HL.out.get 0 rfl) Try.underlying26 rfl (shp_info _ _) ?_))
  refine (HNa.out _ HA.out).mono ?_
  rintro e w5 ⟨v5, ps5, rfl, ho5, hf5, h5⟩
  rw [may3a] at hf5 ⊢
  rw [if_pos rfl] at hf5
  obtain ⟨x5, y5, rfl⟩ := ho5.shape
  rw [(fst_len hf5).trans nd3a]
  replace HL := Lib.hid (HL.out.call h5)
  replace HA := Lib.hid (Aft.trans HA.out h5)
  clear ho5 hf5 h5 HNa
  go_wp2_with (first | (refine wpList_load_rowG (by kernel_rfl) 26 (.tmp 1) rfl _ rfl _ _ _ _ (HL.out.get 0 rfl) Try.underlying26 rfl (shp_info _ _) ?_))
  refine (HNb.out _ HA.out).mono ?_
  rintro e w6 ⟨v6, ps6, rfl, ho6, hf6, h6⟩
  rw [may3b] at hf6 ⊢
  rw [if_pos rfl] at hf6
  have hl6 := (fst_len hf6).trans nd3b.1
  obtain ⟨g6, c6, rfl, -, hc6⟩ := ho6.atA (i := 2) (by rw [hl6]; decide)
  have hr6 : (ps6.getD 2 ndP).1.rd = true := by
    rw [← fst_getD, hf6]
    exact nd3b.2
  have hcell : w6.cell? ⟨g6, 16, none⟩ = some (.bool true) := by
    have := hc6 w6 (Aft.refl _) 2 _ rfl
    rw [hr6] at this
    exact this
  rw [hl6]
  replace HL := Lib.hid (HL.out.call h6)
  clear ho6 hf6 h6 HNb hl6 hc6 hr6
  go_wp2_with fail
  go_ret
  exact ⟨rfl, HL.out.aft⟩
end Go.Proofs.Ytpnckphfjcnooaa
