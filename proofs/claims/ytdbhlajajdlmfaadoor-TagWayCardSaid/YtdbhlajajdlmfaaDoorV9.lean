/- tag.Sum. -/
import Derived.Test.YtdbhlajajdlmfaaDoorV6
namespace Go.Proofs.YtdbhlajajdlmfaaDoor
open Go Go.RowKit
set_option linter.unusedSimpArgs false
theorem alloc_key (w : World) : (Instr.alloc 30 true (.tuple #[])).run Tryd.prog w = .ok (.pointer (some ⟨w.heap.size, 0, none⟩)) (w.alloc (.cells key0 30)) := by kernel_rfl
theorem key0_size : key0.size = 32 := rfl
theorem key_sz {X : Byt} (h : X.length = 32) : (bv X).toArray.size = 32 := by rw [List.size_toArray, bv_length, h]
def gsum (kind : Int) (ids : List Int) (ls : List (List Int)) (ps : List Byt) : Byt := (tsums kind ids ls ps).getD (ps.length - 1) kzero
theorem tsums_len {kind : Int} {ids : List Int} {ls : List (List Int)} {ps : List Byt} (h : tagOk kind ids ls ps) : (tsums kind ids ls ps).length = ps.length := by
  unfold tsums
  rw [if_pos h, sumsN_length]
  exact h.2.2.1
set_option maxRecDepth 100000 in
set_option maxHeartbeats 2000000 in
theorem gsum_any (kind : Int) (vi vl vp : Value) (ids : List Int) (ls : List (List Int)) (ps : List Byt) (w : World) (hk : TabK K0 1 w) (h : RdTr w vi vl vp ids ls ps) (hs : Small ids ls) (hp : ps.length ≤ 1048576) :
    Calls Tryd.prog 15 #[.agg (trL kind vi vl vp).toArray] w fun e w' => e = .returned (.tuple #[.agg (bv (gsum kind ids ls ps)).toArray, .int .i64 (tagE kind ids ls ps)]) ∧ Aft w w' := by
  have HSm := Lib.hid (fun (wx : World) (ha : Aft w wx) => tsums_any kind vi vl vp ids ls ps wx (TabK_fr hk (Fr.of_below (S := fun _ => False) ha) (fun h => h)) (h.aft ha) hs hp)
  obtain ⟨ao, ac, rfl, -, -⟩ := h.i.numS
  obtain ⟨bo, bc, rfl, -⟩ := h.l.shape
  obtain ⟨po, pc, rfl, -, -⟩ := h.p.shape
  have HL := Lib.hid (Led.start w)
  clear h hs hk
  go_enter Tryd.func15, Tryd.ntmps15
  go_wp2_with (first | (refine wpList_dstT 1 rfl ?_; refine wpList_boxO rfl 28 (.tmp 0) rfl (.agg (trL kind (.slice ao ids.length ac) (.slice bo ls.length bc) (.slice po ps.length pc)).toArray) rfl (.cells (trL kind (.slice ao ids.length ac) (.slice bo ls.length bc) (.slice po ps.length pc)).toArray 28) (box_tr _ _ _ _) ?_; intro w1 aa gg zz; replace HL := Lib.hid (HL.out.alloc aa gg.out); clear aa gg zz; (try simp only [List.nil_append, List.cons_append, List.set_cons_zero, List.set_cons_succ] at HL)) | (refine wpList_allocO rfl 30 rfl (.cells key0 30) alloc_key ?_; intro w' aa gg zz; replace HL := Lib.hid (HL.out.alloc aa gg.out); clear aa gg zz; try simp only [List.nil_append, List.cons_append, List.set_cons_zero, List.set_cons_succ] at HL) | (refine wpList_dstT 7 rfl ?_; refine wpList_load_rowG (by kernel_rfl) 28 (.tmp 1) rfl _ rfl _ _ _ _ (HL.out.get 0 rfl) Tryd.underlying28 rfl (tr_info _ _ _ _) ?_))
  refine (HSm.out _ HL.out.aft).mono ?_
  rintro e w2 ⟨v, rfl, ho, h2⟩
  replace HL := Lib.hid (HL.out.call h2)
  clear h2 HSm
  have HX := Lib.hid (show gsum kind ids ls ps = (tsums kind ids ls ps).getD (ps.length - 1) kzero from rfl)
  by_cases hok : tagOk kind ids ls ps
  rotate_left
  · have HE := Lib.hid (show tagE kind ids ls ps = 1 from if_neg hok)
    have HX2 := Lib.hid (show gsum kind ids ls ps = kzero by rw [HX.out]; unfold tsums; rw [if_neg hok]; rfl)
    obtain ⟨a2, c2, rfl, -, -⟩ := ho.rd.shape
    rw [HE.out]
    clear hok ho
    go_wp2_with (first | (refine wpList_dstT 13 rfl ?_; refine wpList_buildO (by kernel_rfl) 30 #[] rfl #[] (by kernel_rfl) _ (build_kz _) ?_) | (refine wpList_store_keyZ rfl (.tmp 2) (.tmp 13) rfl _ kzero rfl rfl rfl _ (HL.out.get 1 rfl) key0_size ?_; intro w' b1 b2 b3; replace HL := Lib.hid (HL.out.store 1 rfl b1 b2 b3); clear b1 b2 b3; try simp only [List.nil_append, List.cons_append, List.set_cons_zero, List.set_cons_succ] at HL))
    refine bodyPost_ret (results_cell_tmp rfl _ _ _ 30 (bv kzero).toArray (0, 0) _ rfl (HL.out.get 1 rfl) Tryd.underlying30 rfl (key_info rfl)) rfl ?_
    exact ⟨by rw [HX2.out, HE.out]; rfl, HL.out.aft⟩
  have HE := Lib.hid (show tagE kind ids ls ps = 0 from if_pos hok)
  have hSl := tsums_len hok
  have h0 := hok.2.1
  have h1 := hok.2.2.1
  obtain ⟨m, hm⟩ : ∃ m, ps.length = m + 1 := ⟨ps.length - 1, by omega⟩
  rw [hm] at hSl hp HX
  obtain ⟨g, o, c2, hv, hkl, hr⟩ := ho.rd.at (i := m) (by rw [hSl]; omega)
  have hX2 : gsum kind ids ls ps = (tsums kind ids ls ps).getD m [] := by
    rw [HX.out, Nat.add_sub_cancel, List.getD_eq_getElem?_getD, List.getD_eq_getElem?_getD, List.getElem?_eq_getElem (by rw [hSl]; omega)]
    rfl
  rw [← hX2] at hkl hr
  have HKl := Lib.hid hkl
  have HR := Lib.hid hr
  rw [hSl] at hv
  subst hv
  rw [HE.out]
  clear hok ho HX hX2 hkl hr hSl h0 h1 hm
  generalize hXe : gsum kind ids ls ps = X at *
  have HXe := Lib.hid hXe
  clear hXe
  go_wp2_with (first | (refine wpList_dstT 20 rfl ?_; refine wpList_load_keyG (by kernel_rfl) (.tmp 19) rfl _ _ rfl X HR.out HKl.out ?_) | (refine wpList_store_keyZ rfl (.tmp 2) (.tmp 20) rfl _ X HKl.out rfl rfl _ (HL.out.get 1 rfl) key0_size ?_; intro w' b1 b2 b3; replace HL := Lib.hid (HL.out.store 1 rfl b1 b2 b3); clear b1 b2 b3; try simp only [List.nil_append, List.cons_append, List.set_cons_zero, List.set_cons_succ] at HL))
  refine bodyPost_ret (results_cell_tmp rfl _ _ _ 30 (bv X).toArray (0, 0) _ rfl (HL.out.get 1 rfl) Tryd.underlying30 rfl (key_info HKl.out)) rfl ?_
  exact ⟨by rw [HXe.out, HE.out]; rfl, HL.out.aft⟩
end Go.Proofs.YtdbhlajajdlmfaaDoor
