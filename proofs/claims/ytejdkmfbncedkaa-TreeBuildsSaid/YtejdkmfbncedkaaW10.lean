/- coterieref10.Build. -/
import Derived.Test.YtejdkmfbncedkaaW9
import Derived.Test.YtejdkmfbncedkaaB3
namespace Go.Proofs.Ytejdkmfbncedkaa
open Go Go.RowKit
set_option linter.unusedSimpArgs false
set_option maxRecDepth 100000 in
set_option maxHeartbeats 4000000 in
theorem rbuild_any (v : Value) (xs : List Int) (w : World) (h : Rd w v (zv xs)) (hl : xs.length ≤ 1048576) : Calls Try.prog 18 #[v] w (BldSays xs w) := by
  have HR := Lib.hid h
  obtain ⟨ao, cap, rfl, -, -⟩ := h.numS
  have HX := Lib.hid hl
  have HL := Lib.hid (Led.start w)
  clear h hl
  go_enter Try.func18, Try.ntmps18
  go_wp2_with (first | (refine wpList_buildO (by kernel_rfl) 26 #[] rfl #[] (by kernel_rfl) _ (build_shp0) ?_) | (refine wpList_allocO rfl 26 rfl (.cells (shpL (.slice none 0 0) (.slice none 0 0)).toArray 26) alloc_shp ?_; intro w' aa gg zz; have HZ := Lib.hid zz; replace HL := Lib.hid (HL.out.alloc aa gg.out); clear aa gg; (try simp only [List.nil_append, List.cons_append, List.set_cons_zero, List.set_cons_succ] at HL)) | (refine wpList_store_shp rfl (.tmp 4) (.tmp 9) _ _ _ (.slice none 0 0) (.slice none 0 0) rfl rfl rfl rfl rfl (HL.out.get 1 rfl) ?_; intro w9 b1 b2 b3; replace HL := Lib.hid (HL.out.store 1 rfl b1 b2 b3); clear b1 b2 b3; try simp only [List.nil_append, List.cons_append, List.set_cons_zero, List.set_cons_succ] at HL))
  rename_i w1 zz1 HZ1 Kx hKx
  rw [zz1] at HL
  clear zz zz1 HZ HZ1
  obtain ⟨sb, hsb2⟩ : ∃ sb, sb = w.heap.size + 1 := ⟨_, rfl⟩
  rw [← hsb2] at HL ⊢
  clear hsb2
  go_loopw [12] (fun v10 wr => ∃ (k : Nat) (ids : List Int) (ls : List (List Int)) (vi vl : Value) (vs : List Value), k ≤ xs.length ∧ v10 = .int .i64 (k : Int) ∧ bld xs [] [] = bld (xs.drop k) ids ls ∧ OkT ids ls ∧ OwnTr wr w.heap.size vi vl vs ids ls ∧ Led w wr [(w.heap.size, .cells (shpL (.slice none 0 0) (.slice none 0 0)).toArray 26), (sb, .cells (shpL vi vl).toArray 26)]) (fun v _ => xs.length - (intOf v).toNat)
  case atStart => exact ⟨0, [], [], .slice none 0 0, .slice none 0 0, [], by omega, rfl, rfl, ok_empty, OwnTr.nil _ _, HL.out⟩
  case round =>
    clear HL
    obtain ⟨k, ids, ls, vi, vl, vs, hk, rfl, hb, hok, hT, hL⟩ := hrel
    have HL := Lib.hid hL
    have HT := Lib.hid hT
    have HB := Lib.hid hb
    have HOk := Lib.hid hok
    obtain ⟨a1, c1, b1, d1, rfl, rfl⟩ := hT.shape
    clear hL hT hb hok
    have hx := HX.out
    by_cases hlt : k < xs.length
    · have hlt' : (k : Int) < (xs.length : Nat) := by omega
      obtain ⟨g, o, cp, he, -⟩ := (HR.out.grow HL.out.aft).at (show 0 < (zv xs).length by rw [zv_length]; omega)
      injection he with he1 he2 he3
      subst he1 he3
      have hc := Rd.num_at (HR.out.grow HL.out.aft) hlt
      have hd := drop_at xs k hlt
      rw [hd] at HB
      generalize xs.getD k 0 = id at *
      generalize hrq : xs.drop (k + 1) = rest at *
      have HRq := Lib.hid hrq
      have HCI := Lib.hid (rinsert_any _ _ ids ls id wr HT.out.ids.rd HT.out.lv.rd (small_of HOk.out))
      clear hrq hd he2
      go_wp2_with (first | (refine wpList_load_rowG (by kernel_rfl) 26 (.tmp 4) rfl _ rfl _ _ _ _ (HL.out.get 1 rfl) Try.underlying26 rfl (shp_info _ _) ?_))
      refine HCI.out.mono ?_
      rintro e w2 ⟨vi2, vl2, vs2, rfl, ho, h2⟩
      have HT := Lib.hid (ho.mono (Below.size HL.out.aft))
      obtain ⟨a2, c2, b2, d2, rfl, rfl⟩ := ho.shape
      replace HL := Lib.hid (HL.out.call h2)
      clear h2 ho HCI hc
      by_cases hz : insE ids ls id = 0
      · have HG := Lib.hid (show bld xs [] [] = bld rest (insIds ids ls id) (insLv ids ls id) from HB.out.trans (bld_good hz))
        have HZ := Lib.hid (ins_ok hz).1
        rw [hz]
        clear hz
        go_wp2_with (first | (refine wpList_allocO rfl 26 rfl (.cells (shpL (.slice none 0 0) (.slice none 0 0)).toArray 26) alloc_shp ?_; intro w' aa gg zz; replace HT := Lib.hid (HT.out.aft aa); replace HL := Lib.hid (HL.out.alloc aa gg.out); clear aa gg zz; try simp only [List.nil_append, List.cons_append, List.set_cons_zero, List.set_cons_succ] at HL) | (refine wpList_store_shp rfl (.tmp 7) (.tmp 20) _ _ _ (.slice a2 (insIds ids ls id).length c2) (.slice b2 (insLv ids ls id).length d2) rfl rfl rfl rfl rfl (HL.out.get 2 rfl) ?_; intro w9 b1 b2 b3; replace HT := Lib.hid (HT.out.stored (HL.out.get 2 rfl) (by decide) (by decide) b2.out); replace HL := Lib.hid (HL.out.store 2 rfl b1 b2 b3); clear b1 b2 b3; try simp only [List.nil_append, List.cons_append, List.set_cons_zero, List.set_cons_succ] at HL) | (refine wpList_store_shp rfl (.tmp 4) (.tmp 26) _ _ _ (.slice a2 (insIds ids ls id).length c2) (.slice b2 (insLv ids ls id).length d2) rfl rfl rfl rfl rfl (HL.out.get 1 rfl) ?_; intro w9 b1 b2 b3; replace HT := Lib.hid (HT.out.stored (HL.out.get 1 rfl) (by decide) (by decide) b2.out); replace HL := Lib.hid (HL.out.store 1 rfl b1 b2 b3); clear b1 b2 b3; try simp only [List.nil_append, List.cons_append, List.set_cons_zero, List.set_cons_succ] at HL) | (refine wpList_load_rowG (by kernel_rfl) 26 (.tmp 7) rfl _ rfl _ _ _ _ (HL.out.get 2 rfl) Try.underlying26 rfl (shp_info _ _) ?_))
        go_roundw
        case rel =>
          exact ⟨k + 1, insIds ids ls id, insLv ids ls id, _, _, vs2, by omega, by go_num, by rw [HG.out, HRq.out], HZ.out, HT.out, HL.out.cut 2⟩
        case measure => simp [intOf]; omega
      · have HG := Lib.hid (show bld xs [] [] = (insE ids ls id, [], []) from HB.out.trans (bld_bad hz))
        generalize insE ids ls id = c at *
        go_wp2_with (first | (refine wpList_allocO rfl 26 rfl (.cells (shpL (.slice none 0 0) (.slice none 0 0)).toArray 26) alloc_shp ?_; intro w' aa gg zz; replace HT := Lib.hid (HT.out.aft aa); replace HL := Lib.hid (HL.out.alloc aa gg.out); clear aa gg zz; try simp only [List.nil_append, List.cons_append, List.set_cons_zero, List.set_cons_succ] at HL) | (refine wpList_store_shp rfl (.tmp 7) (.tmp 20) _ _ _ (.slice a2 (insIds ids ls id).length c2) (.slice b2 (insLv ids ls id).length d2) rfl rfl rfl rfl rfl (HL.out.get 2 rfl) ?_; intro w9 b1 b2 b3; replace HT := Lib.hid (HT.out.stored (HL.out.get 2 rfl) (by decide) (by decide) b2.out); replace HL := Lib.hid (HL.out.store 2 rfl b1 b2 b3); clear b1 b2 b3; try simp only [List.nil_append, List.cons_append, List.set_cons_zero, List.set_cons_succ] at HL) | (refine wpList_store_shp rfl (.tmp 2) (.tmp 24) _ _ _ (.slice none 0 0) (.slice none 0 0) rfl rfl rfl rfl rfl (HL.out.get 0 rfl) ?_; intro w9 b1 b2 b3; replace HL := Lib.hid (HL.out.store 0 rfl b1 b2 b3); clear b1 b2 b3; try simp only [List.nil_append, List.cons_append, List.set_cons_zero, List.set_cons_succ] at HL) | (refine wpList_buildO (by kernel_rfl) 26 #[] rfl #[] (by kernel_rfl) _ (build_shp0) ?_))
        refine bodyPost_ret (results_cell_tmp rfl _ _ _ 26 _ (0, 0) _ rfl (HL.out.get 0 rfl) Try.underlying26 rfl (shp_info _ _)) rfl ?_
        exact BldSays.of HG.out (OwnTr.nil _ _) HL.out.aft
    · obtain rfl : k = xs.length := by omega
      have hlt' : ¬ ((xs.length : Nat) : Int) < (xs.length : Nat) := by omega
      rw [List.drop_length] at HB
      go_wp2_with (first | (refine wpList_load_rowG (by kernel_rfl) 26 (.tmp 4) rfl _ rfl _ _ _ _ (HL.out.get 1 rfl) Try.underlying26 rfl (shp_info _ _) ?_) | (refine wpList_store_shp rfl (.tmp 2) (.tmp 28) _ _ _ (.slice a1 ids.length c1) (.slice b1 ls.length d1) rfl rfl rfl rfl rfl (HL.out.get 0 rfl) ?_; intro w9 b1 b2 b3; replace HT := Lib.hid (HT.out.stored (HL.out.get 0 rfl) (by decide) (by decide) b2.out); replace HL := Lib.hid (HL.out.store 0 rfl b1 b2 b3); clear b1 b2 b3; try simp only [List.nil_append, List.cons_append, List.set_cons_zero, List.set_cons_succ] at HL))
      refine bodyPost_ret (results_cell_tmp rfl _ _ _ 26 _ (0, 0) _ rfl (HL.out.get 0 rfl) Try.underlying26 rfl (shp_info _ _)) rfl ?_
      exact BldSays.of HB.out HT.out HL.out.aft
end Go.Proofs.Ytejdkmfbncedkaa
