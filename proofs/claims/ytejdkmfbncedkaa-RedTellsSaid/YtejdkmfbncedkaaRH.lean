/- red.High, walked. -/
import Derived.Test.YtejdkmfbncedkaaRB
import Derived.Test.YtejdkmfbncedkaaNG
namespace Go.Proofs.Ytejdkmfbncedkaa
open Go Go.RowKit Go.Shelf
set_option linter.unusedSimpArgs false
attribute [local go_sem] Oper.semAt_some
/-- What lies between two rounds. -/
structure HiI (N : List Nd) (n3 n4 n6 n8 : Nat) (w3 : World) (ks : List Nat) (W : World) : Prop where
  dp : W.heap[n3]? = some (.cells (zv (hiF N ks).1).toArray 3 (0, 0))
  sl : W.heap[n4]? = some (.cells #[.slice (some ⟨n3, 0, none⟩) N.length N.length] 22 (0, 0))
  hg : W.heap[n6]? = some (.cells #[.int .i64 (hiF N ks).2] 3 (0, 0))
  bl : Below w3.heap.size w3 W
  lt : n8 < W.heap.size
theorem HiI.own {n : Nat} (N : List Nd) (n3 n4 n6 n8 : Nat) (w3 : World) (B : Nat) (hB : w3.heap.size ≤ B) : OwnFrom B (fun (s : List (NdI n)) W => HiI N n3 n4 n6 n8 w3 (s.map (·.1)) W) := fun s X Y row hs hg hr => by
  have hr2 : ∀ r, row = some r → ∃ o : Obj, X.heap[r]? = some o ∧ o.isCells = false := fun r e => (hr r e).2
  exact ⟨cells_kept hs.dp hg hr2, cells_kept hs.sl hg hr2, cells_kept hs.hg hg hr2, (ownFrom_below (β := Unit) (w₀ := w3) (Nat.le_refl _) hB) () X Y row hs.bl hg hr, Nat.lt_of_lt_of_le hs.lt hg.size⟩
theorem HiI.alloc {N : List Nd} {n3 n4 n6 n8 : Nat} {w3 : World} {ks : List Nat} {W : World} (h : HiI N n3 n4 n6 n8 w3 ks W) (o : Obj) : HiI N n3 n4 n6 n8 w3 ks (W.alloc o) := by
  have hk : ∀ {k : Nat} {q : Obj}, W.heap[k]? = some q → (W.alloc o).heap[k]? = some q := fun {k q} e => (Below.heap_alloc _ _ _ (Array.getElem?_eq_some_iff.1 e).1).trans e
  exact ⟨hk h.dp, hk h.sl, hk h.hg, h.bl.alloc h.bl.size _, by rw [World.size_alloc]; exact Nat.lt_succ_of_lt h.lt⟩
theorem heap_set1 {W : World} {g j : Nat} {L : List Value} {t : TypeId} {fr : Nat × Nat} (u : Value) (h : W.heap[g]? = some (.cells L.toArray t fr)) : (W.setCell ⟨g, j, none⟩ u).heap[g]? = some (.cells (L.set j u).toArray t fr) := by
  obtain ⟨hlt, hk⟩ := Array.getElem?_eq_some_iff.1 h
  show (W.heap.modify g _)[g]? = _
  rw [Array.getElem?_eq_getElem (by rw [Array.size_modify]; exact hlt), Array.getElem_modify_self, hk]
  show some (Obj.cells (L.toArray.setIfInBounds j u) t fr) = _
  rw [List.setIfInBounds_toArray]
theorem heap_set2 {W : World} {g j k : Nat} (u : Value) (h : k ≠ g) : (W.setCell ⟨g, j, none⟩ u).heap[k]? = W.heap[k]? := Below.heap_setCell _ _ _ _ h
def highN (kind : Int) (ids : List Int) (ls : List (List Int)) : Int := if mayE kind ids ls = 0 then (hiF (nodesL kind ids ls) (dnL (nodesL kind ids ls).length (nodesL kind ids ls).length)).2 else 0
set_option maxRecDepth 100000 in
set_option maxHeartbeats 4000000 in
theorem high_any (kind : Int) (vi vl : Value) (ids : List Int) (ls : List (List Int)) (w : World) (hi : Rd w vi (zv ids)) (hl : RdLs w vl ls) (hs : Small ids ls) :
    Calls Try.prog 22 #[.int .i64 kind, .agg (shpL vi vl).toArray] w fun e w' => e = .returned (.tuple #[.int .i64 (highN kind ids ls), .int .i64 (mayE kind ids ls)]) ∧ Aft w w' := by
  have HMy := Lib.hid (fun (wx : World) (ha : Aft w wx) => may_any kind vi vl ids ls wx (hi.grow ha) (hl.aft ha) hs)
  have HNd := Lib.hid (fun (hk : kind = 1 ∨ kind = 2) (hok : OkT ids ls) (wx : World) (ha : Aft w wx) => nodes_any kind hk vi vl ids ls wx (hi.grow ha) (hl.aft ha) hok)
  obtain ⟨ao, cap, rfl, -, -⟩ := hi.numS
  obtain ⟨bo, dap, rfl, -⟩ := hl.shape
  have HL := Lib.hid (Led.start w)
  clear hi hl hs
  refine (callsIn_wide (n := 9)).1 (callsIn_of_wp_marks Try.func22 rfl trivial ?_ rfl)
  simp only [Try.ntmps22, List.size_toArray, List.length_cons, List.length_nil, Nat.reduceAdd, Nat.reduceSub, Array.replicate_succ, Array.replicate_zero, List.push_toArray, List.append_toArray, List.nil_append, List.cons_append]
  refine wpIn_wide.2 ?_
  go_wp2_with (first | (refine wpList_boxO rfl 26 (.tmp 1) rfl (.agg (shpL (.slice ao ids.length cap) (.slice bo ls.length dap)).toArray) rfl (.cells (shpL (.slice ao ids.length cap) (.slice bo ls.length dap)).toArray 26) (box_shp _) ?_; intro w' aa gg zz; replace HL := Lib.hid (HL.out.alloc aa gg.out); clear aa gg zz; try simp only [List.nil_append, List.cons_append, List.set_cons_zero, List.set_cons_succ] at HL) | (refine wpList_load_rowG (by kernel_rfl) 26 (.tmp 3) rfl _ rfl _ _ _ _ (HL.out.get 0 rfl) Try.underlying26 rfl (shp_info _ _) ?_))
  refine (HMy.out _ HL.out.aft).mono ?_
  rintro e w2 ⟨rfl, h2⟩
  replace HL := Lib.hid (HL.out.call h2)
  clear h2 HMy
  by_cases h0 : mayE kind ids ls = 0
  rotate_left
  · have h1 : mayE kind ids ls = 1 := (mayE_or kind ids ls).resolve_left h0
    have HZ := Lib.hid h1
    rw [h1]
    clear h0 h1 HNd
    go_wp2_with fail
    refine ⟨_, results_tmp2 rfl _ _ _, ?_, HL.out.aft⟩
    rw [HZ.out, highN, if_neg (by rw [HZ.out]; decide)]
    rfl
  · obtain ⟨hk, hok⟩ := mayE_zero.1 h0
    have HZ := Lib.hid h0
    have HOk := Lib.hid hok
    rw [h0]
    have HNd2 := Lib.hid (HNd.out hk hok)
    clear h0 HNd
    go_wp2_with (first | (refine wpList_load_rowG (by kernel_rfl) 26 (.tmp 3) rfl _ rfl _ _ _ _ (HL.out.get 0 rfl) Try.underlying26 rfl (shp_info _ _) ?_))
    refine (HNd2.out _ HL.out.aft).mono ?_
    rintro e w3 ⟨v, ps, rfl, ho, hf, h3⟩
    obtain ⟨pa, pc, rfl⟩ := ho.shape
    have HO := Lib.hid (ho.mono (Below.size HL.out.aft))
    have HF := Lib.hid hf
    have hn : ps.length ≤ 1000000 := by
      have h4 := fst_len hf
      have h5 : (nodesL kind ids ls).length ≤ 90000 := by
        rcases hk with rfl | rfl
        · rw [← nonK_all (kinds_cor hok), nonK]
          exact Nat.le_trans (List.length_filter_le _ _) (Nat.le_trans (by rw [List.length_take]; exact Nat.min_le_right _ _) (c3s_le hok))
        · exact c3s_le hok
      omega
    replace HL := Lib.hid (HL.out.call h3)
    have HA3 := Lib.hid HL.out.aft
    have HB := Lib.hid (Below.refl w3.heap.size w3)
    clear ho hf h3 HNd2 hk hok
    go_wp2_with (first | (refine wpList_makeIntsB (by kernel_rfl) (.tmp 22) (.tmp 22) rfl ps.length (ps.length : Int) rfl rfl rfl (by omega) ?_; intro w4 aS gS; replace HL := Lib.hid (HL.out.alloc aS gS.out); replace HB := Lib.hid (HB.out.trans (aS.mono HB.out.size)); have HS4 := Lib.hid (Below.size HB.out); have HT3 := Lib.hid (heap_lt (HL.out.get 1 rfl)); clear aS gS; try simp only [List.nil_append, List.cons_append, List.set_cons_zero, List.set_cons_succ] at HL) | (refine wpList_allocO rfl 22 rfl (.cells [.slice none 0 0].toArray 22) alloc_intsV ?_; intro w5 aa gg zz; replace HL := Lib.hid (HL.out.alloc aa gg.out); replace HB := Lib.hid (HB.out.trans (aa.mono HB.out.size)); clear aa gg zz; try simp only [List.nil_append, List.cons_append, List.set_cons_zero, List.set_cons_succ] at HL) | (refine wpList_store_cellJ rfl 22 (.tmp 8) (.tmp 23) rfl _ 0 (.slice (some ⟨w3.heap.size, 0, none⟩) ps.length ps.length) rfl rfl _ _ (by simp) (HL.out.get 2 rfl) (by kernel_rfl) rfl rfl ?_; intro w6 b1 b2 b3; replace HB := Lib.hid (b3 _ _ HS4.out HB.out); have HS6 := Lib.hid (Below.size HB.out); replace HL := Lib.hid (HL.out.store 2 rfl b1 b2 b3); have HT4 := Lib.hid (heap_lt (HL.out.get 2 rfl)); clear b1 b2 b3; try simp only [List.nil_append, List.cons_append, List.set_cons_zero, List.set_cons_succ] at HL) | (refine wpList_allocO rfl 3 rfl (.cells [.int .i64 0].toArray 3) alloc_int1 ?_; intro w7 aa gg zz; replace HL := Lib.hid (HL.out.alloc aa gg.out); replace HB := Lib.hid (HB.out.trans (aa.mono HB.out.size)); clear aa gg zz; try simp only [List.nil_append, List.cons_append, List.set_cons_zero, List.set_cons_succ] at HL) | (refine wpList_store_cellJ rfl 3 (.tmp 9) (.const (.int .i64 0)) rfl _ 0 (.int .i64 0) rfl rfl _ _ (by simp) (HL.out.get 3 rfl) (by kernel_rfl) rfl rfl ?_; intro w8 b1 b2 b3; replace HB := Lib.hid (b3 _ _ HS6.out HB.out); replace HL := Lib.hid (HL.out.store 3 rfl b1 b2 b3); clear b1 b2 b3; try simp only [List.nil_append, List.cons_append, List.set_cons_zero, List.set_cons_succ] at HL))
    have HS3 := Lib.hid (heap_lt (HL.out.get 1 rfl))
    have HS8 := Lib.hid (heap_lt (HL.out.get 3 rfl))
    have HN := Lib.hid (show (ps.map Prod.fst) = nodesL kind ids ls from HF.out)
    refine (back_any _ _ _ _).mono ?_
    rintro e w9 ⟨rfl, h9, hbk⟩
    replace HL := Lib.hid (HL.out.call h9)
    replace HB := Lib.hid (HB.out.trans (h9.mono HB.out.size))
    have HBk := Lib.hid hbk
    have hsl : w6.heap.size < w8.heap.size := HS8.out
    have hs4 : w4.heap.size < w6.heap.size := HT4.out
    have hs3 : w3.heap.size < w4.heap.size := HT3.out
    have hs9 : w8.heap.size < w9.heap.size := heap_lt hbk
    clear h9 hbk
    go_wp2_with fail
    refine (wpIn_wide (n := 9)).1 ?_
    refine wpIn_rangeFunc_ownH rfl (by decide) (gf := 111) (lb := #[.pointer (some ⟨w8.heap.size, 0, none⟩)]) rfl trivial (enters_of Try.func111 (by kernel_rfl) rfl)
      (back_stops 8 w8.heap.size w.heap.size pa pc ps w3 w9 HO.out hn HB.out HBk.out) (fun h k => h.trans k) (fun W l o o' h1 h2 h3 h4 => ⟨belowK_b (w := w9) (by omega) W l o o' h1 h2 h3 h4, World.putObj_heap_other (by omega)⟩) (Below.refl _ _) (fun _ => rfl)
      (fun pre W => HiI (ps.map Prod.fst) w3.heap.size w4.heap.size w6.heap.size w8.heap.size w3 (pre.map (·.1)) W) (fun _ _ _ => False) (HiI.own _ _ _ _ _ _ _ (by omega)) (fun _ _ _ _ _ hs _ _ => hs) ?h0
      (fun x a' W => ∃ Bx, w8.heap.size < Bx ∧ W.heap[Bx]? = some (.cells (ndR (ps.getD x.1 ndP).1 (ps.getD x.1 ndP).2).toArray 38 (0, 0)) ∧ a' = { tmps := #[.int .i64 kind, .agg (shpL (.slice ao ids.length cap) (.slice bo ls.length dap)).toArray, undef, .pointer (some ⟨w.heap.size, 0, none⟩), .int .i64 0, .int .i64 0, .int .i64 0, .slice pa ps.length pc, .pointer (some ⟨w4.heap.size, 0, none⟩), .pointer (some ⟨w6.heap.size, 0, none⟩), .int .i64 (x.1 : Int), .pointer (some ⟨Bx, 0, none⟩), .int .i64 kind, .agg (shpL (.slice ao ids.length cap) (.slice bo ls.length dap)).toArray, .int .i64 0, .int .i64 0, .bool false, undef, .int .i64 kind, .agg (shpL (.slice ao ids.length cap) (.slice bo ls.length dap)).toArray, .slice pa ps.length pc, .slice pa ps.length pc, .int .i64 (ps.length : Int), .slice (some ⟨w3.heap.size, 0, none⟩) ps.length ps.length, .slice pa ps.length pc, .func (.func 111) #[] #[.pointer (some ⟨w8.heap.size, 0, none⟩)], .int .i64 (x.1 : Int), .agg (ndR (ps.getD x.1 ndP).1 (ps.getD x.1 ndP).2).toArray, undef, undef, undef, undef, undef, undef, undef, undef, undef, undef, undef, undef, undef, undef, undef, undef, undef, undef, undef], defers := [] })
      (fun x a' _ X Y row hs hg hr => by obtain ⟨Bx, h1, h2, h3⟩ := hs; exact ⟨Bx, h1, cells_kept h2 hg (fun r e => (hr r e).2), h3⟩) ?assign ?body ?done ?stop
    case h0 =>
      have hl : (ps.map Prod.fst).length = ps.length := List.length_map ..
      refine ⟨?_, ?_, HL.out.get 3 rfl, HB.out, hs9⟩
      · have := HL.out.get 1 rfl
        rwa [← hl] at this
      · rw [hl]
        exact HL.out.get 2 rfl
    case assign =>
      intro l pre x W K hI hK
      have HI := Lib.hid hI
      have HK := Lib.hid hK
      have hlw : w8.heap.size < W.heap.size := hI.lt
      clear hK hI
      have HOne := Lib.hid (show (ndR (ps.getD x.1 ndP).1 (ps.getD x.1 ndP).2).toArray.all (·.oneCell') = true by
        obtain ⟨ka, kc, hkv⟩ := HO.out.kidv x.2
        rw [hkv]
        exact all_one ndR_one)
      dsimp only [ndE]
      obtain ⟨xk, hxk⟩ : ∃ xk, xk = ps.getD x.1 ndP := ⟨_, rfl⟩
      rw [← hxk] at HK HOne ⊢
      have HXk := Lib.hid hxk
      clear hxk
      gi_wp2_with (first | (refine wpListIn_allocO rfl 38 rfl (.cells (ndR nd0 (.slice none 0 0)).toArray 38) alloc_nd ?_) | (refine wpListIn_store_rowZ rfl 38 (.tmp 11) (.tmp 27) rfl _ (ndR xk.1 xk.2).toArray rfl rfl _ _ (World.alloc_heap_new _ _) (nd_info _ _) rfl HOne.out ?_; intro w' b1 b2 b3 b4))
      have hsz : w'.heap.size = W.heap.size + 1 := by rw [b4, World.size_alloc]
      have hle := HI.out.bl.size
      have hkp : ∀ {k : Nat} {q : Obj}, W.heap[k]? = some q → w'.heap[k]? = some q := fun {k q} e => by
        have hlt := (Array.getElem?_eq_some_iff.1 e).1
        exact ((b2.out k (by omega)).trans (Below.heap_alloc _ _ _ hlt)).trans e
      refine HK.out _ _ ⟨by omega, fun k o _ hk _ => hkp hk⟩ ⟨b3 _ _ hle ((Below.refl _ W).alloc hle _), (b2.out _ (by omega)).trans (Below.heap_alloc _ _ _ hlw)⟩
        ⟨hkp HI.out.dp, hkp HI.out.sl, hkp HI.out.hg, b3 _ _ hle (HI.out.bl.alloc hle _), by omega⟩ ⟨W.heap.size, hlw, b1.out, rfl⟩
    case body =>
      rintro l pre x a' W hl ⟨r, hr⟩ hI ⟨Bx, hBx, bX, rfl⟩ hlt
      obtain ⟨k, hk⟩ := x
      obtain ⟨dh, hdh⟩ : ∃ dh, dh = hiF (ps.map Prod.fst) (pre.map (·.1)) := ⟨_, rfl⟩
      have hdl : dh.1.length = ps.length := by rw [hdh, hiF_length, List.length_map]
      have hst : hiF (ps.map Prod.fst) ((pre ++ [(⟨k, hk⟩ : NdI ps.length)]).map (·.1)) = hiStep (ps.map Prod.fst) dh k := by
        rw [List.map_append, hdh]
        exact hiF_snoc _ _ _
      have hup : ((ps.map Prod.fst).getD k nd0).up = (ps.getD k ndP).1.up := by rw [fst_getD]
      have hun : (ps.getD k ndP).1.up = -1 ∨ ∃ j : Nat, (ps.getD k ndP).1.up = (j : Int) ∧ k < j ∧ j < ps.length := by
        have h1 := nodes_up (kind := kind) HOk.out (i := k) (by rw [← HF.out, List.length_map]; exact hk)
        rw [← HF.out, List.length_map, fst_getD] at h1
        exact h1
      have hI2 : HiI (ps.map Prod.fst) w3.heap.size w4.heap.size w6.heap.size w8.heap.size w3 (pre.map (·.1)) W := hI
      have hdp := hI2.dp
      have hhg := hI2.hg
      rw [← hdh] at hdp hhg
      have hc4 : W.cell? ⟨w4.heap.size, 0, none⟩ = some (.slice (some ⟨w3.heap.size, 0, none⟩) ps.length ps.length) := by
        have := hI2.sl
        rw [List.length_map] at this
        simp [World.cell?, this]
      have hc6 : W.cell? ⟨w6.heap.size, 0, none⟩ = some (.int .i64 dh.2) := by simp [World.cell?, hhg]
      have hf6 : W.frozen? ⟨w6.heap.size, 0, none⟩ = false := by simp [World.frozen?, hhg]
      have hcd : ∀ i, i < ps.length → W.cell? ⟨w3.heap.size, i, none⟩ = some (.int .i64 (dh.1.getD i 0)) := fun i hi => by
        have := cell_part (n := i) hdp (show (zv dh.1)[i]? = some (.int .i64 (dh.1.getD i 0)) by
          unfold zv
          rw [List.getElem?_map, List.getElem?_eq_getElem (by omega), List.getD_eq_getElem?_getD, List.getElem?_eq_getElem (by omega)]
          rfl)
        exact this
      have hfd : W.frozen? ⟨w3.heap.size, k, none⟩ = false := by simp [World.frozen?, hdp]
      have hx6 : W.cell? ⟨Bx, 6, none⟩ = some (.int .i64 (ps.getD k ndP).1.up) := cell_part (n := 6) bX rfl
      have hck := hcd k hk
      have HI := Lib.hid hI2
      have HSt := Lib.hid hst
      have HUp := Lib.hid hup
      have HCd := Lib.hid hcd
      have HDl := Lib.hid hdl
      have HDp := Lib.hid hdp
      have HHg := Lib.hid hhg
      have hn3 : w3.heap.size ≠ w4.heap.size := by omega
      have hn6 : w3.heap.size ≠ w6.heap.size := by omega
      have hmx : Try.prog.follows .mixedOrders = true := by kernel_rfl
      clear hdh hdl hst hup hI hI2 hdp hhg hcd bX
      generalize (ps.getD k ndP).1.up = u at *
      generalize ps.getD k ndP = xk at *
      generalize hdk : dh.1.getD k 0 = dk at *
      have HDk := Lib.hid hdk
      clear hdk
      rcases hun with rfl | ⟨j, rfl, hkj, hj⟩
      · gi_wp2
        gi_region_with_o (fail)
        all_goals gi_wp2
        all_goals
          refine ⟨((KeepsOthers.setCell W _ _).trans (KeepsOthers.drew _)).from _, ⟨((Below.refl _ W).setCell (p := ⟨w6.heap.size, 0, none⟩) (by show w3.heap.size ≤ w6.heap.size; omega) _).drew, heap_set2 _ (by omega)⟩, ?_⟩
          have hb := (HI.out.bl.setCell (p := ⟨w6.heap.size, 0, none⟩) (by show w3.heap.size ≤ w6.heap.size; omega) (.int .i64 (max dh.2 dk))).drew
          have hsz := (KeepsOthers.setCell W ⟨w6.heap.size, 0, none⟩ (.int .i64 (max dh.2 dk))).size
          have hst2 : hiF (ps.map Prod.fst) ((pre ++ [(⟨k, hk⟩ : NdI ps.length)]).map (·.1)) = (dh.1, max dh.2 dk) := by
            rw [HSt.out, hiStep, HUp.out, if_neg (by decide), HDk.out]
          refine ⟨?_, ?_, ?_, hb, Nat.lt_of_lt_of_le HI.out.lt hsz⟩
          · rw [hst2]
            exact (heap_set2 _ hn6).trans HDp.out
          · exact (heap_set2 _ (by omega)).trans HI.out.sl
          · rw [hst2]
            exact heap_set1 _ HHg.out
      · have hcj := HCd.out j hj
        generalize hdj : dh.1.getD j 0 = dj at *
        have HDj := Lib.hid hdj
        clear hdj
        gi_wp2
        refine wpIn_mono (Q := fun e a' w' => e = .normal ∧ a' = { tmps := #[.int .i64 kind, .agg (shpL (.slice ao ids.length cap) (.slice bo ls.length dap)).toArray, undef, .pointer (some ⟨w.heap.size, 0, none⟩), .int .i64 0, .int .i64 0, .int .i64 0, .slice pa ps.length pc, .pointer (some ⟨w4.heap.size, 0, none⟩), .pointer (some ⟨w6.heap.size, 0, none⟩), .int .i64 (k : Int), .pointer (some ⟨Bx, 0, none⟩), .int .i64 kind, .agg (shpL (.slice ao ids.length cap) (.slice bo ls.length dap)).toArray, .int .i64 0, .int .i64 0, .bool false, undef, .int .i64 kind, .agg (shpL (.slice ao ids.length cap) (.slice bo ls.length dap)).toArray, .slice pa ps.length pc, .slice pa ps.length pc, .int .i64 (ps.length : Int), .slice (some ⟨w3.heap.size, 0, none⟩) ps.length ps.length, .slice pa ps.length pc, .func (.func 111) #[] #[.pointer (some ⟨w8.heap.size, 0, none⟩)], .int .i64 (k : Int), .agg (ndR xk.1 xk.2).toArray, .pointer (some ⟨Bx, 6, none⟩), .int .i64 (j : Int), .bool true, .slice (some ⟨w3.heap.size, 0, none⟩) ps.length ps.length, .int .i64 (k : Int), .slice (some ⟨w3.heap.size, 0, none⟩) ps.length ps.length, .pointer (some ⟨Bx, 6, none⟩), .int .i64 (j : Int), .pointer (some ⟨w3.heap.size, j, none⟩), .int .i64 dj, .int .i64 (IntKind.i64.wrap (dj + 1)), .pointer (some ⟨w3.heap.size, k, none⟩), undef, undef, undef, undef, undef, undef, undef], defers := [] } ∧ w' = (W.setCell ⟨w3.heap.size, k, none⟩ (.int .i64 (IntKind.i64.wrap (dj + 1)))).drew) ?_ ?_
        · gi_region_with_o (fail)
          all_goals exact ⟨rfl, rfl, rfl⟩
        · rintro e a' w' ⟨rfl, rfl, rfl⟩
          obtain ⟨W1, hW1⟩ : ∃ W1, W1 = (W.setCell ⟨w3.heap.size, k, none⟩ (.int .i64 (IntKind.i64.wrap (dj + 1)))).drew := ⟨_, rfl⟩
          rw [← hW1]
          have hd1 : W1.heap[w3.heap.size]? = some (.cells (zv (dh.1.set k (IntKind.i64.wrap (dj + 1)))).toArray 3 (0, 0)) := by
            rw [hW1, ← zv_set]
            exact heap_set1 _ HDp.out
          have h61 : W1.heap[w6.heap.size]? = some (.cells #[.int .i64 dh.2] 3 (0, 0)) := by
            rw [hW1]
            exact (heap_set2 _ hn6.symm).trans HHg.out
          have h41 : W1.heap[w4.heap.size]? = W.heap[w4.heap.size]? := by
            rw [hW1]
            exact heap_set2 _ hn3.symm
          have h81 : W1.heap[w8.heap.size]? = W.heap[w8.heap.size]? := by
            rw [hW1]
            exact heap_set2 _ (by omega)
          have hb1 : Below w3.heap.size W W1 := by
            rw [hW1]
            exact ((Below.refl _ W).setCell (p := ⟨w3.heap.size, k, none⟩) (Nat.le_refl _) _).drew
          have hk1 : KeepsOthers W W1 := by
            rw [hW1]
            exact (KeepsOthers.setCell W _ _).trans (KeepsOthers.drew _)
          have hst2 : hiF (ps.map Prod.fst) ((pre ++ [(⟨k, hk⟩ : NdI ps.length)]).map (·.1)) = (dh.1.set k (IntKind.i64.wrap (dj + 1)), max dh.2 (IntKind.i64.wrap (dj + 1))) := by
            rw [HSt.out, hiStep, HUp.out, if_pos (by omega), Int.toNat_natCast, HDj.out]
            have e : (dh.1.set k (IntKind.i64.wrap (dj + 1))).getD k 0 = IntKind.i64.wrap (dj + 1) := by
              rw [List.getD_eq_getElem?_getD, List.getElem?_set_self (by rw [HDl.out]; exact hk)]
              rfl
            show (dh.1.set k (IntKind.i64.wrap (dj + 1)), max dh.2 ((dh.1.set k (IntKind.i64.wrap (dj + 1))).getD k 0)) = _
            rw [e]
          generalize IntKind.i64.wrap (dj + 1) = z at *
          have hcz : W1.cell? ⟨w3.heap.size, k, none⟩ = some (.int .i64 z) := by
            refine cell_part (n := k) hd1 ?_
            rw [← zv_set, List.getElem?_set_self (by rw [zv_length, HDl.out]; exact hk)]
          replace hc4 : W1.cell? ⟨w4.heap.size, 0, none⟩ = some (.slice (some ⟨w3.heap.size, 0, none⟩) ps.length ps.length) := by
            rw [← hc4]
            simp [World.cell?, h41]
          replace hc6 : W1.cell? ⟨w6.heap.size, 0, none⟩ = some (.int .i64 dh.2) := by simp [World.cell?, h61]
          replace hf6 : W1.frozen? ⟨w6.heap.size, 0, none⟩ = false := by simp [World.frozen?, h61]
          have HSt2 := Lib.hid hst2
          have HD1 := Lib.hid hd1
          have H61 := Lib.hid h61
          have H41 := Lib.hid h41
          have H81 := Lib.hid h81
          clear hW1 hst2 hd1 h61 h41 h81 hcj hck hx6 hfd
          gi_wp2
          gi_region_with_o (fail)
          all_goals gi_wp2
          all_goals
            refine ⟨(hk1.trans ((KeepsOthers.setCell W1 _ _).trans (KeepsOthers.drew _))).from _, ⟨(hb1.setCell (p := ⟨w6.heap.size, 0, none⟩) (by show w3.heap.size ≤ w6.heap.size; omega) _).drew, (heap_set2 _ (by omega)).trans H81.out⟩, ?_⟩
            have hb := ((HI.out.bl.trans hb1).setCell (p := ⟨w6.heap.size, 0, none⟩) (by show w3.heap.size ≤ w6.heap.size; omega) (.int .i64 (max dh.2 z))).drew
            have hsz := Nat.le_trans hk1.size (KeepsOthers.setCell W1 ⟨w6.heap.size, 0, none⟩ (.int .i64 (max dh.2 z))).size
            refine ⟨?_, ?_, ?_, hb, Nat.lt_of_lt_of_le HI.out.lt hsz⟩
            · rw [HSt2.out]
              exact (heap_set2 _ hn6).trans HD1.out
            · exact ((heap_set2 _ (by omega)).trans H41.out).trans HI.out.sl
            · rw [HSt2.out]
              exact heap_set1 _ H61.out
    case done =>
      rintro D xs W hD hx hI hK
      obtain ⟨z, hz⟩ : ∃ z, z = (hiF (ps.map Prod.fst) (xs.map (·.1))).2 := ⟨_, rfl⟩
      have hcS : W.cell? ⟨w6.heap.size, 0, none⟩ = some (.int .i64 z) := by rw [hz]; simp [World.cell?, hI.hg]
      have HI := Lib.hid hI
      have HK := Lib.hid hK
      have HX := Lib.hid hx
      have HZ2 := Lib.hid hz
      clear hI hK hx hz
      go_wp2_with fail
      refine ⟨by simp, .inl ⟨_, _, rfl, run_takeDeferred HK.out, ?_⟩⟩
      refine ⟨_, results_tmp2 rfl _ _ _, ?_, Below.trans (Aft.trans HA3.out HI.out.bl) (belowK_b (w := w9) (Nat.le_trans (Below.size HA3.out) HB.out.size) W D _ _ hD HK.out rfl rfl)⟩
      have hl : (ps.map Prod.fst).length = ps.length := List.length_map ..
      rw [HZ.out, highN, if_pos HZ.out, ← HF.out, hl, ← HX.out, ← HZ2.out]
      rfl
    case stop =>
      rintro D c pre W _ _ h _
      exact h.elim
end Go.Proofs.Ytejdkmfbncedkaa
