/- A tree with its points, in memory; tag.nodes, tag.Check. -/
import Derived.Test.YtdbhlajajdlmfaaDoorV3
import Derived.Test.YtdbhlajajdlmfaaDoorB4
import Derived.Test.YtdbhlajajdlmfaaDoorV1
namespace Go.Proofs.YtdbhlajajdlmfaaDoor
open Go Go.RowKit
set_option linter.unusedSimpArgs false
/-- The tree's cells. -/
def trL (kind : Int) (vi vl vp : Value) : List Value := [.int .i64 kind, vi, vl, vp]
theorem tr_info (kind : Int) (vi vl vp : Value) : (Tryd.prog.info? 28).map (·.size) = some (trL kind vi vl vp).toArray.size := by kernel_rfl
theorem alloc_tr (w : World) : (Instr.alloc 28 true (.tuple #[])).run Tryd.prog w = .ok (.pointer (some ⟨w.heap.size, 0, none⟩)) (w.alloc (.cells (trL 0 (.slice none 0 0) (.slice none 0 0) (.slice none 0 0)).toArray 28)) := by kernel_rfl
theorem box_tr (kind : Int) (vi vl vp : Value) (w : World) : (Instr.box 28 (.agg (trL kind vi vl vp).toArray)).run Tryd.prog w = .ok (.pointer (some ⟨w.heap.size, 0, none⟩)) (w.alloc (.cells (trL kind vi vl vp).toArray 28)) := rfl
theorem build_kz (w : World) : (Instr.build 30 #[]).run Tryd.prog w = .ok (.agg (bv kzero).toArray) w := by kernel_rfl
theorem tr_shp {w : World} {g : Nat} {kind : Int} {vi vl vp : Value} (h : w.heap[g]? = some (.cells (trL kind vi vl vp).toArray 28 (0, 0))) : w.rangeAt g 1 (shpL vi vl) := fun j u hu => cell_part h (by match j, hu with | 0, hu => exact hu | 1, hu => exact hu | n + 2, hu => cases hu)
/-- A tree that is read. -/
structure RdTr (w : World) (vi vl vp : Value) (ids : List Int) (ls : List (List Int)) (ps : List Byt) : Prop where
  i : Rd w vi (zv ids)
  l : RdLs w vl ls
  p : RdK w vp ps
theorem RdTr.aft {w w' : World} {vi vl vp : Value} {ids : List Int} {ls : List (List Int)} {ps : List Byt} (h : RdTr w vi vl vp ids ls ps) (ha : Aft w w') : RdTr w' vi vl vp ids ls ps := ⟨h.i.grow ha, h.l.aft ha, h.p.grow ha⟩
/-- What tag.nodes hands back. -/
def TNdSays (kind : Int) (ids : List Int) (ls : List (List Int)) (ps : List Byt) (w : World) (e : Ending) (w' : World) : Prop :=
  ∃ vb qs, e = .returned (.tuple #[vb, .int .i64 (tagE kind ids ls ps)]) ∧ OwnN w' w.heap.size vb qs ∧ qs.map Prod.fst = (if tagOk kind ids ls ps then nodesL kind ids ls else []) ∧ Aft w w'
theorem TNdSays.bad {kind : Int} {ids : List Int} {ls : List (List Int)} {ps : List Byt} {w w' : World} (h : ¬ tagOk kind ids ls ps) (ha : Aft w w') : TNdSays kind ids ls ps w (.returned (.tuple #[.slice none 0 0, .int .i64 1])) w' :=
  ⟨_, [], by unfold tagE; rw [if_neg h], OwnN.nil _ _, by rw [if_neg h]; rfl, ha⟩
set_option maxRecDepth 100000 in
set_option maxHeartbeats 4000000 in
theorem tnodes_any (kind : Int) (vi vl vp : Value) (ids : List Int) (ls : List (List Int)) (ps : List Byt) (w : World) (h : RdTr w vi vl vp ids ls ps) (hs : Small ids ls) (hp : ps.length ≤ 1048576) :
    Calls Tryd.prog 34 #[.agg (trL kind vi vl vp).toArray] w (TNdSays kind ids ls ps w) := by
  have HNd := Lib.hid (fun (wx : World) (ha : Aft w wx) => rnodes_any kind vi vl ids ls wx (h.i.grow ha) (h.l.aft ha) hs)
  have HCo := Lib.hid (fun (wx : World) (ha : Aft w wx) => containsK_any vp kzero ps wx (h.p.grow ha) (List.length_replicate ..) hp)
  obtain ⟨ao, ac, rfl, -, -⟩ := h.i.numS
  obtain ⟨bo, bc, rfl, -⟩ := h.l.shape
  obtain ⟨po, pc, rfl, -, -⟩ := h.p.shape
  have HL := Lib.hid (Led.start w)
  clear h hs
  go_enter Tryd.func34, Tryd.ntmps34
  go_wp2_with (first | (refine wpList_dstT 1 rfl ?_; refine wpList_boxO rfl 28 (.tmp 0) rfl (.agg (trL kind (.slice ao ids.length ac) (.slice bo ls.length bc) (.slice po ps.length pc)).toArray) rfl (.cells (trL kind (.slice ao ids.length ac) (.slice bo ls.length bc) (.slice po ps.length pc)).toArray 28) (box_tr _ _ _ _) ?_; intro w1 aa gg zz; replace HL := Lib.hid (HL.out.alloc aa gg.out); clear aa gg zz; (try simp only [List.nil_append, List.cons_append, List.set_cons_zero, List.set_cons_succ] at HL); have k0 := cell_part (n := 0) (HL.out.get 0 rfl) rfl) | (refine wpList_dstT 10 rfl ?_; refine wpList_load_mid2 (by kernel_rfl) 25 (.tmp 9) rfl _ _ rfl (shpL (.slice ao ids.length ac) (.slice bo ls.length bc)) (tr_shp (HL.out.get 0 rfl)) _ Tryd.underlying25 rfl (shp_info _ _) ?_))
  clear k0
  refine (HNd.out _ HL.out.aft).mono ?_
  rintro e w2 ⟨vb, qs, rfl, ho, hf, h2⟩
  have HO := Lib.hid (ho.mono (Below.size HL.out.aft))
  obtain ⟨qa, qc, rfl⟩ := ho.shape
  replace HL := Lib.hid (HL.out.call h2)
  clear ho h2 HNd
  by_cases hm : mayE kind ids ls = 0
  rotate_left
  · have hno : ¬ tagOk kind ids ls ps := fun q => hm q.1
    have HNo := Lib.hid hno
    have hmb : (mayE kind ids ls != 0) = true := by simpa using hm
    clear hno hm hf
    generalize mayE kind ids ls = c at *
    go_wp2_with fail
    refine bodyPost_ret (results_tmp2 rfl _ _ _) rfl ?_
    exact TNdSays.bad HNo.out HL.out.aft
  rw [hm]
  rw [if_pos hm] at hf
  have hql : qs.length = (nodesL kind ids ls).length := by rw [← hf, List.length_map]
  have HQl := Lib.hid hql
  have HF := Lib.hid hf
  have HM := Lib.hid hm
  clear hql hf hm
  generalize qs.length = n at *
  by_cases h0 : n = 0
  · have HNo := Lib.hid (show ¬ tagOk kind ids ls ps from fun q => by have := q.2.1; have := HQl.out; omega)
    subst h0
    go_wp2_with fail
    refine bodyPost_ret (results_tmp2 rfl _ _ _) rfl ?_
    exact TNdSays.bad HNo.out HL.out.aft
  have h0b : (((n : Nat) : Int) == 0) = false := by simpa using h0
  have h0i : ¬ ((n : Nat) : Int) = 0 := by omega
  have HNz := Lib.hid h0
  have k2 := cell_part (n := 3) (HL.out.get 0 rfl) rfl
  by_cases h1 : n = ps.length
  rotate_left
  · have HNo := Lib.hid (show ¬ tagOk kind ids ls ps from fun q => by have := q.2.2.1; have := HQl.out; omega)
    have h1b : (((n : Nat) : Int) != ((ps.length : Nat) : Int)) = true := by simp; omega
    go_wp2_with fail
    refine bodyPost_ret (results_tmp2 rfl _ _ _) rfl ?_
    exact TNdSays.bad HNo.out HL.out.aft
  have HOk := Lib.hid (fun (q : kzero ∉ ps) => show tagOk kind ids ls ps from ⟨HM.out, by have := HQl.out; omega, by have := HQl.out; omega, q⟩)
  clear h0 h0b h0i
  subst h1
  generalize ps.length = q at *
  obtain ⟨m, rfl⟩ : ∃ m : Nat, q = m + 1 := ⟨q - 1, by have := HNz.out; omega⟩
  go_wp2_with (first | (refine wpList_dstT 32 rfl ?_; refine wpList_buildO (by kernel_rfl) 30 #[] rfl #[] (by kernel_rfl) _ (build_kz _) ?_))
  clear k2
  refine (HCo.out _ HL.out.aft).mono ?_
  rintro e w3 ⟨rfl, h3⟩
  replace HL := Lib.hid (HL.out.call h3)
  replace HO := Lib.hid (HO.out.aft h3)
  by_cases hz : kzero ∈ ps
  · rw [decide_eq_true hz]
    have HNo := Lib.hid (show ¬ tagOk kind ids ls ps from fun q => q.2.2.2 hz)
    clear hz
    go_wp2_with fail
    refine bodyPost_ret (results_tmp2 rfl _ _ _) rfl ?_
    exact TNdSays.bad HNo.out HL.out.aft
  · rw [decide_eq_false hz]
    have HT := Lib.hid (HOk.out hz)
    clear hz
    go_wp2_with fail
    refine bodyPost_ret (results_tmp2 rfl _ _ _) rfl ?_
    exact ⟨_, qs, by unfold tagE; rw [if_pos HT.out]; rfl, HO.out, by rw [if_pos HT.out]; exact HF.out, HL.out.aft⟩
end Go.Proofs.YtdbhlajajdlmfaaDoor
