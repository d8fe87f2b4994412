/- coterieref13.Few, Copy. -/
import Derived.Test.YtdbhlajajdlmfaaDoorV2
import Derived.Test.YtdbhlajajdlmfaaDoorV8
import Derived.Test.YtdbhlajajdlmfaaDoorB3
namespace Go.Proofs.YtdbhlajajdlmfaaDoor
open Go Go.RowKit
set_option linter.unusedSimpArgs false
def fewG (ids : List Int) (ls : List (List Int)) (ps : List Byt) : Bool := fewT ids ls && decide (ids.length ≤ 100) && decide (ps.length ≤ 400)
theorem fewG_of {ids : List Int} {ls : List (List Int)} {ps : List Byt} (h : fewG ids ls ps = true) : fewT ids ls = true ∧ ids.length ≤ 100 ∧ ps.length ≤ 400 := by
  unfold fewG at h
  rw [Bool.and_eq_true, Bool.and_eq_true] at h
  exact ⟨h.1.1, of_decide_eq_true h.1.2, of_decide_eq_true h.2⟩
set_option maxRecDepth 100000 in
set_option maxHeartbeats 2000000 in
theorem gfew_any (kind : Int) (vi vl vp : Value) (ids : List Int) (ls : List (List Int)) (ps : List Byt) (w : World) (h : RdTr w vi vl vp ids ls ps) :
    Calls Tryd.prog 9 #[.agg (trL kind vi vl vp).toArray] w fun e w' => e = .returned (.bool (fewG ids ls ps)) ∧ Aft w w' := by
  have HF := Lib.hid (fun (wx : World) (ha : Aft w wx) => tfew_any vi vl ids ls wx (h.i.grow ha) (h.l.aft ha))
  obtain ⟨ao, ac, rfl, -, -⟩ := h.i.numS
  obtain ⟨bo, bc, rfl, -⟩ := h.l.shape
  obtain ⟨po, pc, rfl, -, -⟩ := h.p.shape
  have HL := Lib.hid (Led.start w)
  clear h
  have HB := Lib.hid (show fewG ids ls ps = (fewT ids ls && decide (ids.length ≤ 100) && decide (ps.length ≤ 400)) from rfl)
  generalize fewG ids ls ps = bq at *
  go_enter Tryd.func9, Tryd.ntmps9
  go_wp2_with (first | (refine wpList_dstT 1 rfl ?_; refine wpList_boxO rfl 28 (.tmp 0) rfl (.agg (trL kind (.slice ao ids.length ac) (.slice bo ls.length bc) (.slice po ps.length pc)).toArray) rfl (.cells (trL kind (.slice ao ids.length ac) (.slice bo ls.length bc) (.slice po ps.length pc)).toArray 28) (box_tr _ _ _ _) ?_; intro w1 aa gg zz; replace HL := Lib.hid (HL.out.alloc aa gg.out); clear aa gg zz; (try simp only [List.nil_append, List.cons_append, List.set_cons_zero, List.set_cons_succ] at HL)) | (refine wpList_dstT 4 rfl ?_; refine wpList_load_mid2 (by kernel_rfl) 25 (.tmp 3) rfl _ _ rfl (shpL (.slice ao ids.length ac) (.slice bo ls.length bc)) (tr_shp (HL.out.get 0 rfl)) _ Tryd.underlying25 rfl (shp_info _ _) ?_))
  refine (HF.out _ HL.out.aft).mono ?_
  rintro e w2 ⟨rfl, h2⟩
  replace HL := Lib.hid (HL.out.call h2)
  clear h2
  have k1 := cell_part (n := 1) (HL.out.get 0 rfl) rfl
  have k3 := cell_part (n := 3) (HL.out.get 0 rfl) rfl
  cases hf : fewT ids ls with
  | false =>
    have HB2 := Lib.hid (show bq = false by rw [HB.out, hf]; rfl)
    clear hf
    go_wp2_with fail
    go_ret
    exact ⟨by rw [HB2.out]; rfl, HL.out.aft⟩
  | true =>
    by_cases g1 : (ids.length : Int) ≤ 100
    · by_cases g2 : (ps.length : Int) ≤ 400
      · have HB2 := Lib.hid (show bq = true by rw [HB.out, hf, decide_eq_true (show ids.length ≤ 100 by omega), decide_eq_true (show ps.length ≤ 400 by omega)]; rfl)
        clear hf
        go_wp2_with fail
        go_ret
        exact ⟨by rw [HB2.out]; rfl, HL.out.aft⟩
      · have HB2 := Lib.hid (show bq = false by rw [HB.out, hf, decide_eq_true (show ids.length ≤ 100 by omega), decide_eq_false (show ¬ ps.length ≤ 400 by omega)]; rfl)
        have g2b : decide ((ps.length : Int) ≤ 400) = false := decide_eq_false g2
        clear hf
        go_wp2_with fail
        go_ret
        exact ⟨by rw [HB2.out]; rfl, HL.out.aft⟩
    · have HB2 := Lib.hid (show bq = false by rw [HB.out, hf, decide_eq_false (show ¬ ids.length ≤ 100 by omega)]; rfl)
      clear hf
      go_wp2_with fail
      go_ret
      exact ⟨by rw [HB2.out]; rfl, HL.out.aft⟩
def GCpSays (kind : Int) (ids : List Int) (ls : List (List Int)) (ps : List Byt) (w : World) (e : Ending) (w' : World) : Prop :=
  ∃ vi vl vp vs, e = .returned (.agg (trL kind vi vl vp).toArray) ∧ OwnTr w' w.heap.size vi vl vs ids ls ∧ OwnK w' w.heap.size vp ps ∧ Aft w w'
theorem OwnK.storedT {w w' : World} {base g t : Nat} {v : Value} {ks : List Byt} {cs : Array Value} {fr : Nat × Nat} (h : OwnK w base v ks) (hg : w.heap[g]? = some (.cells cs t fr)) (ht : t ≠ 30) (hb : ∀ k, k ≠ g → w'.heap[k]? = w.heap[k]?) : OwnK w' base v ks :=
  h.keep fun k hk => hb k fun e => by
    subst e
    rcases h.2.2 with ⟨rfl, -⟩ | ⟨b, cap, cur, rfl, -, hq, -⟩
    · cases hk
    · have e2 : b = k := Option.some.inj hk
      subst e2
      have hq : w.heap[b]? = _ := hq
      rw [hq] at hg
      cases hg
      exact ht rfl
theorem trL_one (kind : Int) (x y z : Value) (hx : x.oneCell' = true) (hy : y.oneCell' = true) (hz : z.oneCell' = true) : ∀ u ∈ trL kind x y z, u.oneCell' = true := by
  intro u hu
  simp only [trL, List.mem_cons, List.not_mem_nil, or_false] at hu
  rcases hu with rfl | rfl | rfl | rfl
  · rfl
  · exact hx
  · exact hy
  · exact hz
set_option maxRecDepth 100000 in
set_option maxHeartbeats 4000000 in
theorem gcopy_any (kind : Int) (vi vl vp : Value) (ids : List Int) (ls : List (List Int)) (ps : List Byt) (w : World) (h : RdTr w vi vl vp ids ls ps) (hs : Small ids ls) (hp : ps.length ≤ 1000000) :
    Calls Tryd.prog 11 #[.agg (trL kind vi vl vp).toArray] w (GCpSays kind ids ls ps w) := by
  have HC := Lib.hid (fun (wx : World) (ha : Aft w wx) => rcopy_any vi vl ids ls wx (h.i.grow ha) (h.l.aft ha) hs)
  have HP := Lib.hid (fun (wx : World) (ha : Aft w wx) => h.p.grow ha)
  obtain ⟨ao, ac, rfl, -, -⟩ := h.i.numS
  obtain ⟨bo, bc, rfl, -⟩ := h.l.shape
  obtain ⟨po, pc, rfl, -, -⟩ := h.p.shape
  have HL := Lib.hid (Led.start w)
  have HPl := Lib.hid hp
  clear h hs hp
  go_enter Tryd.func11, Tryd.ntmps11
  go_wp2_with (first | (refine wpList_dstT 1 rfl ?_; refine wpList_boxO rfl 28 (.tmp 0) rfl (.agg (trL kind (.slice ao ids.length ac) (.slice bo ls.length bc) (.slice po ps.length pc)).toArray) rfl (.cells (trL kind (.slice ao ids.length ac) (.slice bo ls.length bc) (.slice po ps.length pc)).toArray 28) (box_tr _ _ _ _) ?_; intro w1 aa gg zz; replace HL := Lib.hid (HL.out.alloc aa gg.out); clear aa gg zz; (try simp only [List.nil_append, List.cons_append, List.set_cons_zero, List.set_cons_succ] at HL)) | (refine wpList_dstT 2 rfl ?_; refine wpList_allocO rfl 28 rfl (.cells (trL 0 (.slice none 0 0) (.slice none 0 0) (.slice none 0 0)).toArray 28) alloc_tr ?_; intro w2 aa gg zz; replace HL := Lib.hid (HL.out.alloc aa gg.out); clear aa gg zz; (try simp only [List.nil_append, List.cons_append, List.set_cons_zero, List.set_cons_succ] at HL)) | (refine wpList_dstT 4 rfl ?_; refine wpList_load_mid2 (by kernel_rfl) 25 (.tmp 3) rfl _ _ rfl (shpL (.slice ao ids.length ac) (.slice bo ls.length bc)) (tr_shp (HL.out.get 0 rfl)) _ Tryd.underlying25 rfl (shp_info _ _) ?_))
  refine (HC.out _ HL.out.aft).mono ?_
  rintro e w3 ⟨vi3, vl3, vs, rfl, ho, h3⟩
  have HT := Lib.hid (ho.mono (Below.size HL.out.aft))
  obtain ⟨a3, c3, b3, d3, rfl, rfl⟩ := ho.shape
  replace HL := Lib.hid (HL.out.call h3)
  clear ho h3 HC
  go_wp2_with (first | (refine wpList_store_part rfl 25 (.tmp 6) (.tmp 5) rfl w.heap.size 1 (.agg (shpL (.slice a3 ids.length c3) (.slice b3 ls.length d3)).toArray) rfl rfl 28 [.int .i64 kind] [.slice ao ids.length ac, .slice bo ls.length bc] (shpL (.slice a3 ids.length c3) (.slice b3 ls.length d3)) [.slice po ps.length pc] rfl rfl (HL.out.get 0 rfl) (shp_info _ _) rfl (shp_one rfl rfl) ?_; intro w4 q1 q2 q3; replace HT := Lib.hid (HT.out.stored (HL.out.get 0 rfl) (by decide) (by decide) q2.out); replace HL := Lib.hid (HL.out.store 0 rfl q1 q2 q3); clear q1 q2 q3; (try simp only [List.nil_append, List.cons_append, List.set_cons_zero, List.set_cons_succ] at HL); have k3 := cell_part (n := 3) (HL.out.get 0 rfl) rfl) | (refine wpList_dstT 9 rfl ?_; refine wpList_append_keys (by kernel_rfl) _ _ rfl w4.heap.size (.slice none 0 0) [] rfl (OwnK.nil _ _) (.slice po ps.length pc) ps rfl (HP.out _ HL.out.aft) (by have := HPl.out; rw [List.length_nil]; omega) (Nat.le_refl _) ?_; intro vp5 w5 k1 k2; have HK := Lib.hid (show OwnK w5 w4.heap.size vp5 ps from k1); have HA5 := Lib.hid (Fr.below (Fr.of_grown (S := fun _ => False) k2 (fun q hq => by cases hq)) (Nat.le_refl _) (fun q e => e.elim)); obtain ⟨a5, c5, he5, -, -⟩ := HK.out.rd.shape; subst he5; clear k1 k2 k3; replace HT := Lib.hid (HT.out.aft HA5.out); replace HK := Lib.hid (HK.out.mono (Below.size HL.out.aft)); replace HL := Lib.hid (HL.out.call HA5.out); clear HA5) | (refine wpList_store_cellJ rfl 26 (.tmp 10) (.tmp 9) rfl w.heap.size 3 (.slice a5 ps.length c5) rfl rfl 28 (trL kind (.slice a3 ids.length c3) (.slice b3 ls.length d3) (.slice po ps.length pc)) (Nat.le_of_ble_eq_true rfl) (HL.out.get 0 rfl) (by kernel_rfl) rfl rfl ?_; intro w6 q1 q2 q3; replace HT := Lib.hid (HT.out.stored (HL.out.get 0 rfl) (by decide) (by decide) q2.out); replace HK := Lib.hid (HK.out.storedT (HL.out.get 0 rfl) (by decide) q2.out); replace HL := Lib.hid (show Led w w6 [(w.heap.size, .cells (trL kind (.slice a3 ids.length c3) (.slice b3 ls.length d3) (.slice a5 ps.length c5)).toArray 28), (w1.heap.size, .cells (trL 0 (.slice none 0 0) (.slice none 0 0) (.slice none 0 0)).toArray 28)] from HL.out.store 0 rfl q1 q2 q3); clear q1 q2 q3; (try simp only [List.nil_append, List.cons_append, List.set_cons_zero, List.set_cons_succ] at HL)) | (refine wpList_dstT 11 rfl ?_; refine wpList_load_rowG (by kernel_rfl) 28 (.tmp 1) rfl _ rfl _ _ _ _ (HL.out.get 0 rfl) Tryd.underlying28 rfl (tr_info _ _ _ _) ?_) | (refine wpList_store_rowZ rfl 28 (.tmp 2) (.tmp 11) rfl _ (trL kind (.slice a3 ids.length c3) (.slice b3 ls.length d3) (.slice a5 ps.length c5)).toArray rfl rfl _ _ (HL.out.get 1 rfl) (tr_info _ _ _ _) rfl (all_one (trL_one _ _ _ _ rfl rfl rfl)) ?_; intro w7 q1 q2 q3; replace HT := Lib.hid (HT.out.stored (HL.out.get 1 rfl) (by decide) (by decide) q2.out); replace HK := Lib.hid (HK.out.storedT (HL.out.get 1 rfl) (by decide) q2.out); replace HL := Lib.hid (HL.out.store 1 rfl q1 q2 q3); clear q1 q2 q3; (try simp only [List.nil_append, List.cons_append, List.set_cons_zero, List.set_cons_succ] at HL)))
  refine bodyPost_ret (results_cell_row rfl _ _ _ 28 (trL kind (.slice a3 ids.length c3) (.slice b3 ls.length d3) (.slice a5 ps.length c5)).toArray (0, 0) _ rfl (HL.out.get 1 rfl) Tryd.underlying28 rfl (tr_info _ _ _ _)) rfl ?_
  exact ⟨_, _, _, _, rfl, HT.out, HK.out, HL.out.aft⟩
end Go.Proofs.YtdbhlajajdlmfaaDoor
