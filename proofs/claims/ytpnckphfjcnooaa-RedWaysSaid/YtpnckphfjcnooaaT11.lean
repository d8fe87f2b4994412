/- live of law 10: it answers true. -/
import Derived.Test.YtpnckphfjcnooaaT10
namespace Go.Proofs.Ytpnckphfjcnooaa
open Go Go.RowKit
set_option linter.unusedSimpArgs false
theorem bld4 : bld [1, 2, 3, 4] [] [] = (0, [1, 2, 3, 4], [[2, 2], [2]]) := by decide
theorem ok4 : OkT [1, 2, 3, 4] [[2, 2], [2]] := by decide
theorem lit_own {w : World} {base : Nat} (xs : List Int) (hb : base ≤ w.heap.size) (hm : xs.length ≤ maxLen) : OwnI (w.alloc (.cells (zv xs).toArray 3 (0, 0))) base (.slice (some ⟨w.heap.size, 0, none⟩) xs.length xs.length) xs := by
  have := own_blk (base := base) (xs := zv xs) (heap_alloc_new w (.cells (zv xs).toArray 3 (0, 0))) hb (by rw [zv_length]; exact hm)
  rw [zv_length] at this
  exact this
theorem lits (w w1 w2 w3 w4 : World) (h1 : w1 = w.alloc (.cells #[.int .i64 1, .int .i64 2, .int .i64 3, .int .i64 4] 3 (0, 0))) (h2 : w2 = w1.alloc (.cells #[.int .i64 2, .int .i64 2] 3 (0, 0))) (h3 : w3 = w2.alloc (.cells #[.int .i64 2] 3 (0, 0)))
    (h4 : w4 = w3.alloc (.cells #[.slice (some ⟨w.heap.size + 1, 0, none⟩) 2 2, .slice (some ⟨w.heap.size + 1 + 1, 0, none⟩) 1 1] 22 (0, 0))) :
    Aft w w4 ∧ Rd w4 (.slice (some ⟨w.heap.size, 0, none⟩) 4 4) (zv [1, 2, 3, 4]) ∧ RdLs w4 (.slice (some ⟨w.heap.size + 1 + 1 + 1, 0, none⟩) 2 2) [[2, 2], [2]] := by
  have s1 : w1.heap.size = w.heap.size + 1 := by rw [h1, World.size_alloc]
  have s2 : w2.heap.size = w.heap.size + 1 + 1 := by rw [h2, World.size_alloc, s1]
  have s3 : w3.heap.size = w.heap.size + 1 + 1 + 1 := by rw [h3, World.size_alloc, s2]
  have a1 : Aft w w1 := h1 ▸ Aft.alloc w _
  have a2 : Aft w1 w2 := h2 ▸ Aft.alloc w1 _
  have a3 : Aft w2 w3 := h3 ▸ Aft.alloc w2 _
  have a4 : Aft w3 w4 := h4 ▸ Aft.alloc w3 _
  have o1 : OwnI w1 0 (.slice (some ⟨w.heap.size, 0, none⟩) 4 4) [1, 2, 3, 4] := h1 ▸ lit_own (w := w) [1, 2, 3, 4] (Nat.zero_le _) (by decide)
  have o2 : OwnI w2 0 (.slice (some ⟨w.heap.size + 1, 0, none⟩) 2 2) [2, 2] := s1 ▸ h2 ▸ lit_own (w := w1) [2, 2] (Nat.zero_le _) (by decide)
  have o3 : OwnI w3 0 (.slice (some ⟨w.heap.size + 1 + 1, 0, none⟩) 1 1) [2] := s2 ▸ h3 ▸ lit_own (w := w2) [2] (Nat.zero_le _) (by decide)
  have o4 : w4.ownsRow 0 22 1 (.slice (some ⟨w.heap.size + 1 + 1 + 1, 0, none⟩) 2 2) 2 [.slice (some ⟨w.heap.size + 1, 0, none⟩) 2 2, .slice (some ⟨w.heap.size + 1 + 1, 0, none⟩) 1 1] :=
    s3 ▸ own_blk (xs := [.slice (some ⟨w.heap.size + 1, 0, none⟩) 2 2, .slice (some ⟨w.heap.size + 1 + 1, 0, none⟩) 1 1]) (h4 ▸ heap_alloc_new w3 _) (Nat.zero_le _) (show 2 ≤ maxLen by decide)
  refine ⟨Aft.trans a1 (Aft.trans a2 (Aft.trans a3 a4)), o1.rd.grow (Aft.trans a2 (Aft.trans a3 a4)), ⟨_, Rd.of_own o4, rfl, fun i u hu => ?_⟩⟩
  match i, hu with
  | 0, hu =>
    cases hu
    exact o2.rd.grow (Aft.trans a3 a4)
  | 1, hu =>
    cases hu
    exact o3.rd.grow a4
set_option maxRecDepth 100000 in
set_option maxHeartbeats 4000000 in
theorem live10_any (w : World) : Calls Try.prog 17 #[] w fun e w' => e = .returned (.bool true) ∧ Aft w w' := by
  have HBu := Lib.hid (fun (wx : World) (v : Value) (h : Rd wx v (zv [1, 2, 3, 4])) => tbuild_any v [1, 2, 3, 4] wx h (by decide))
  have HL := Lib.hid (Led.start w)
  go_enter Try.func17, Try.ntmps17
  go_wp2_with fail
  refine (HBu.out _ _ (lit_own (w := w) (base := 0) [1, 2, 3, 4] (Nat.zero_le _) (by decide)).rd).mono ?_
  rintro e w2 ⟨vi, vl, vs, he, ho, h2⟩
  rw [bld4] at he ho
  dsimp only at he ho
  subst he
  replace HL := Lib.hid (HL.out.call (Aft.trans (Aft.alloc w _) h2))
  have HT := Lib.hid ho
  obtain ⟨a1, c1, b1, d1, rfl, rfl⟩ := ho.shape
  have HCk := Lib.hid (fun (wx : World) (ha : Aft w2 wx) => tcheck_any _ _ [1, 2, 3, 4] [[2, 2], [2]] wx (ho.ids.rd.grow ha) (ho.lv.rd.aft ha) (small_of ok4))
  have HSa := Lib.hid (fun (ui ul : Value) (wx : World) (ha : Aft w2 wx) (h1 : Rd wx ui (zv [1, 2, 3, 4])) (h2 : RdLs wx ul [[2, 2], [2]]) => tsame_any _ _ ui ul [1, 2, 3, 4] [1, 2, 3, 4] [[2, 2], [2]] [[2, 2], [2]] wx (ho.ids.rd.grow ha) (ho.lv.rd.aft ha) (small_of ok4) h1 h2)
  have HA := Lib.hid (Aft.refl w2)
  clear ho h2 HBu HT
  generalize [1, 2, 3, 4].length = n1 at *
  generalize [[2, 2], [2]].length = n2 at *
  go_wp2_with (first | (refine wpList_allocO rfl 26 rfl (.cells (shpL (.slice none 0 0) (.slice none 0 0)).toArray 26) alloc_shp ?_; intro w' aa gg zz; replace HA := Lib.hid (Aft.trans HA.out aa); replace HL := Lib.hid (HL.out.alloc aa gg.out); clear aa gg zz; try simp only [List.nil_append, List.cons_append, List.set_cons_zero, List.set_cons_succ] at HL) | (refine wpList_store_shp rfl (.tmp 1) (.tmp 6) _ _ _ (.slice a1 n1 c1) (.slice b1 n2 d1) rfl rfl rfl rfl rfl (HL.out.get 0 rfl) ?_; intro w9 b1 b2 b3; replace HA := Lib.hid (b3 _ _ (Nat.le_refl _) HA.out); replace HL := Lib.hid (HL.out.store 0 rfl b1 b2 b3); clear b1 b2 b3; try simp only [List.nil_append, List.cons_append, List.set_cons_zero, List.set_cons_succ] at HL) | (refine wpList_load_rowG (by kernel_rfl) 26 (.tmp 1) rfl _ rfl _ _ _ _ (HL.out.get 0 rfl) Try.underlying26 rfl (shp_info _ _) ?_))
  refine (HCk.out _ HA.out).mono ?_
  rintro e w3 ⟨rfl, h3⟩
  rw [chkT_zero.2 ok4]
  replace HL := Lib.hid (HL.out.call h3)
  replace HA := Lib.hid (Aft.trans HA.out h3)
  clear h3 HCk
  go_wp2_with (first | (refine wpList_load_rowG (by kernel_rfl) 26 (.tmp 1) rfl _ rfl _ _ _ _ (HL.out.get 0 rfl) Try.underlying26 rfl (shp_info _ _) ?_))
  obtain ⟨q1, q2, q3⟩ := lits w3 _ _ _ _ rfl rfl rfl rfl
  refine (HSa.out _ _ _ (Aft.trans HA.out q1) q2 q3).mono ?_
  rintro e w5 ⟨rfl, h5⟩
  have HZ := Lib.hid (Aft.trans HL.out.aft (Aft.trans q1 h5))
  clear q1 q2 q3 h5
  go_wp2_with fail
  go_ret
  exact ⟨rfl, HZ.out⟩
end Go.Proofs.Ytpnckphfjcnooaa
