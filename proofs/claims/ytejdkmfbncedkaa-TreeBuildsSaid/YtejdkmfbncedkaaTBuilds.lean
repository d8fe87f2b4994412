/- coterielaw10.TreeBuilds: it answers true. -/
import Derived.Test.YtejdkmfbncedkaaW10
import Derived.Test.YtejdkmfbncedkaaT20
import Derived.Test.YtejdkmfbncedkaaB3
namespace Go.Proofs.Ytejdkmfbncedkaa
open Go Go.RowKit
set_option linter.unusedSimpArgs false
theorem bld_okT : ∀ (xs ids : List Int) (ls : List (List Int)), OkT ids ls → OkT (bld xs ids ls).2.1 (bld xs ids ls).2.2
  | [], _, _, h => h
  | id :: xs, ids, ls, h => by
    by_cases hz : insE ids ls id = 0
    · rw [bld_good hz]
      exact bld_okT xs _ _ (ins_ok hz).1
    · rw [bld_bad hz]
      exact ok_empty
set_option maxRecDepth 100000 in
set_option maxHeartbeats 4000000 in
theorem treeBuilds_any (v : Value) (xs : List Int) (w : World) (h : Rd w v (zv xs)) : Calls Try.prog 3 #[v] w fun e w' => e = .returned (.bool true) ∧ Aft w w' := by
  have HR := Lib.hid h
  obtain ⟨ao, cap, rfl, -, -⟩ := h.numS
  have HL := Lib.hid (Led.start w)
  clear h
  go_enter Try.func3, Try.ntmps3
  go_wp2_with fail
  refine (live10_any _).mono ?_
  rintro e w2 ⟨rfl, h2⟩
  replace HL := Lib.hid (HL.out.call h2)
  clear h2
  by_cases h1 : (150 : Int) < (xs.length : Nat)
  · go_wp2_with fail
    go_ret
    exact ⟨rfl, HL.out.aft⟩
  have hx : xs.length ≤ 1048576 := by omega
  have HB1 := Lib.hid (fun (wx : World) (ha : Aft w wx) => tbuild_any _ xs wx (HR.out.grow ha) hx)
  have HB2 := Lib.hid (fun (wx : World) (ha : Aft w wx) => rbuild_any _ xs wx (HR.out.grow ha) hx)
  obtain ⟨c, i, l, hb⟩ : ∃ c i l, bld xs [] [] = (c, i, l) := ⟨_, _, _, rfl⟩
  have hok := bld_okT xs [] [] ok_empty
  rw [hb] at hok
  have HSm := Lib.hid (small_of hok)
  have HBa := Lib.hid hb
  clear hb hok hx
  go_wp2_with fail
  refine (HB1.out _ HL.out.aft).mono ?_
  rintro e w4 ⟨vi1, vl1, vs1, he, ho1, h4⟩
  rw [HBa.out] at he ho1
  dsimp only at he ho1
  subst he
  obtain ⟨a1, k1, b1, d1, rfl, rfl⟩ := ho1.shape
  have HT1 := Lib.hid ho1
  replace HL := Lib.hid (HL.out.call h4)
  clear ho1 h4 HB1
  go_wp2_with (first | (refine wpList_allocO rfl 26 rfl (.cells (shpL (.slice none 0 0) (.slice none 0 0)).toArray 26) alloc_shp ?_; intro w' aa gg zz; replace HT1 := Lib.hid (HT1.out.aft aa); replace HL := Lib.hid (HL.out.alloc aa gg.out); clear aa gg zz; try simp only [List.nil_append, List.cons_append, List.set_cons_zero, List.set_cons_succ] at HL) | (refine wpList_store_shp rfl (.tmp 4) (.tmp 18) _ _ _ (.slice a1 i.length k1) (.slice b1 l.length d1) rfl rfl rfl rfl rfl (HL.out.get 0 rfl) ?_; intro w9 b1 b2 b3; replace HT1 := Lib.hid (HT1.out.stored (HL.out.get 0 rfl) (by decide) (by decide) b2.out); replace HL := Lib.hid (HL.out.store 0 rfl b1 b2 b3); clear b1 b2 b3; try simp only [List.nil_append, List.cons_append, List.set_cons_zero, List.set_cons_succ] at HL))
  refine (HB2.out _ HL.out.aft).mono ?_
  rintro e w5 ⟨vi2, vl2, vs2, he, ho2, h5⟩
  rw [HBa.out] at he ho2
  dsimp only at he ho2
  subst he
  obtain ⟨a2, k2, b2, d2, rfl, rfl⟩ := ho2.shape
  have HT2 := Lib.hid ho2
  replace HL := Lib.hid (HL.out.call h5)
  replace HT1 := Lib.hid (HT1.out.aft h5)
  clear ho2 h5 HB2
  go_wp2_with (first | (refine wpList_allocO rfl 26 rfl (.cells (shpL (.slice none 0 0) (.slice none 0 0)).toArray 26) alloc_shp ?_; intro w' aa gg zz; replace HT1 := Lib.hid (HT1.out.aft aa); replace HT2 := Lib.hid (HT2.out.aft aa); replace HL := Lib.hid (HL.out.alloc aa gg.out); clear aa gg zz; try simp only [List.nil_append, List.cons_append, List.set_cons_zero, List.set_cons_succ] at HL) | (refine wpList_store_shp rfl (.tmp 6) (.tmp 23) _ _ _ (.slice a2 i.length k2) (.slice b2 l.length d2) rfl rfl rfl rfl rfl (HL.out.get 1 rfl) ?_; intro w9 b1 b2 b3; replace HT1 := Lib.hid (HT1.out.stored (HL.out.get 1 rfl) (by decide) (by decide) b2.out); replace HT2 := Lib.hid (HT2.out.stored (HL.out.get 1 rfl) (by decide) (by decide) b2.out); replace HL := Lib.hid (HL.out.store 1 rfl b1 b2 b3); clear b1 b2 b3; try simp only [List.nil_append, List.cons_append, List.set_cons_zero, List.set_cons_succ] at HL) | (refine wpList_load_rowG (by kernel_rfl) 26 (.tmp 4) rfl _ rfl _ _ _ _ (HL.out.get 0 rfl) Try.underlying26 rfl (shp_info _ _) ?_) | (refine wpList_load_rowG (by kernel_rfl) 26 (.tmp 6) rfl _ rfl _ _ _ _ (HL.out.get 1 rfl) Try.underlying26 rfl (shp_info _ _) ?_))
  refine (rsame_any _ _ _ _ i i l l _ HT1.out.ids.rd HT1.out.lv.rd HSm.out HT2.out.ids.rd HT2.out.lv.rd HSm.out).mono ?_
  rintro e w6 ⟨rfl, h6⟩
  rw [decide_eq_true (show i = i ∧ l = l from ⟨rfl, rfl⟩)]
  replace HL := Lib.hid (HL.out.call h6)
  clear h6
  go_wp2_with fail
  go_ret
  exact ⟨by simp, HL.out.aft⟩
end Go.Proofs.Ytejdkmfbncedkaa
