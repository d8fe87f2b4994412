import Derived.Test.YtfgammcefaomeaaB2
import Derived.Shelf.Slices.Delete
import Derived.Sort.OwnSortedInts
/- slices.Delete of one number out of a slice of one's own, and tree.lend. -/
namespace Go.Proofs.Ytfgammcefaomeaa
open Go Go.RowKit Go.Shelf
set_option linter.unusedSimpArgs false
/-- The kit's numbers, as they are here. -/
def delRen : Ren :=
  ⟨fun x => match x with
    | 23 => 65
    | n => n,
  fun x => match x with
    | 0 => 0
    | 3 => 3
    | 4 => 4
    | 22 => 22
    | n => n,
  fun n => n⟩
theorem del23 : Lays2.n23 Try.prog delRen :=
  { mixed := by kernel_rfl, f23 := Try.func65,
    t0 := Try.underlying0, a0 := Try.isAgg0, z0 := Try.sizeOf0, v0 := Try.zeroValue0,
    t3 := Try.underlying3, a3 := Try.isAgg3, z3 := Try.sizeOf3, v3 := Try.zeroValue3,
    t4 := Try.underlying4, a4 := Try.isAgg4, z4 := Try.sizeOf4, v4 := Try.zeroValue4,
    t22 := Try.underlying22, a22 := Try.isAgg22, z22 := Try.sizeOf22, v22 := Try.zeroValue22,
    i3 := by kernel_rfl }
/-- What a deletion leaves. -/
def CutSays (v : Value) (xs : List Int) (i : Nat) (base : Nat) (w : World) (e : Ending) (w' : World) : Prop :=
  ∃ v', e = .returned v' ∧ v'.ownBlock = v.ownBlock ∧ OwnI w' base v' (xs.eraseIdx i) ∧ Fr (fun b => v.ownBlock = some b) w w'
theorem cutI_any (v : Value) (xs : List Int) (i : Nat) (base : Nat) (w : World) (ho : OwnI w base v xs) (hi : i < xs.length) :
    Calls Try.prog 65 #[v, .int .i64 (i : Int), .int .i64 ((i : Int) + 1)] w (CutSays v xs i base w) := by
  obtain ⟨ao, cap, rfl⟩ := ho.shape
  rcases ho.2 with ⟨he, h0⟩ | ⟨g, cap', cur, he, hbg, hgc, hn, hm, hs, ht⟩
  · omega
  cases he
  rw [Nat.mul_one] at ht hs
  have hgc' : w.heap[g]? = some (.cells cur 3 (0, 0)) := hgc
  refine (Any.slices_Delete_int del23 g 0 cap i (i + 1) xs w (holds_of_blockI hgc' ht) hn (by unfold maxLen at hm; omega) (by omega) (by omega)).mono ?_
  rintro e w' ⟨rfl, q, rfl⟩
  have hl : (xs.eraseIdx i).length = xs.length - 1 := List.length_eraseIdx_of_lt hi
  have e1 : xs.take i ++ xs.drop (i + 1) ++ List.replicate (i + 1 - i) 0 = xs.eraseIdx i ++ [0] := by
    rw [List.eraseIdx_eq_take_drop_succ, show i + 1 - i = 1 by omega]
    rfl
  rw [e1]
  have hb := heap_sortedI (w := w) (n := q) (os := #[]) (xs.eraseIdx i ++ [0]).toArray hgc'
  have hr : w.grownBy _ (some g) := grownBy_sortedI (w := w) (g := g) (n := q) (os := #[]) (xs.eraseIdx i ++ [0]).toArray
  have hgw : Sort.grow (Sort.putRow (Value.int .i64) (Sort.ahead w q) g 0 (xs.eraseIdx i ++ [0]).toArray) #[] = Sort.putRow (Value.int .i64) (Sort.ahead w q) g 0 (xs.eraseIdx i ++ [0]).toArray := by
    unfold Sort.grow
    rw [Array.append_empty]
  rw [hgw] at hb hr
  refine ⟨_, rfl, rfl, ?_, Fr.of_grown hr (fun k hk => hk)⟩
  unfold OwnI
  rw [hl, show xs.length - (i + 1 - i) = xs.length - 1 by omega]
  refine ⟨by rw [zv_length, hl, Nat.mul_one], .inr ⟨g, cap, _, rfl, hbg, hb, by omega, hm, by simp [Sort.putCells, hs], ?_⟩⟩
  rw [Nat.mul_one]
  have h3 := take_putCellsI cur (xs.eraseIdx i ++ [0]) (by rw [List.length_append, hl, hs]; simp; omega)
  rw [List.length_append, hl, List.length_singleton] at h3
  have h4 := congrArg (List.take (xs.length - 1)) h3
  rw [List.take_take, Nat.min_eq_left (by omega)] at h4
  rw [h4, List.map_append]
  exact List.take_left' (by rw [List.length_map, hl])
theorem num_set {w : World} {base g n c : Nat} {l : List Int} {i : Nat} {x : Int} (h : OwnI w base (.slice (some ⟨g, 0, none⟩) n c) (l.set i x)) (hi : i < l.length) : w.cell? ⟨g, i, none⟩ = some (.int .i64 x) := by
  have := Rd.num_at (OwnI.rd h) (i := i) (by rw [List.length_set]; exact hi)
  rwa [Nat.zero_add, getD_set_eq hi] at this
/-- What lend leaves. -/
def lendL (l above : List Int) (g : Nat) : List Int := if l.getD (othr above g) 0 = 3 then (l.set (othr above g) 2).set g 2 else l.set (min g (othr above g)) 3
set_option maxRecDepth 100000 in
set_option maxHeartbeats 2000000 in
theorem lend_any (gl cl : Nat) (va : Value) (l above : List Int) (g base : Nat) (w : World) (ho : OwnI w base (.slice (some ⟨gl, 0, none⟩) l.length cl) l) (ha : Rd w va (zv above)) (h2 : ∀ x ∈ above, x = 2 ∨ x = 3) (hs : above.sum = (l.length : Nat)) (hla : above.length ≤ 1048576) (hll : l.length ≤ 1048576) (hg : g < l.length) :
    Calls Try.prog 77 #[.slice (some ⟨gl, 0, none⟩) l.length cl, va, .int .i64 (g : Int)] w fun e w' => e = .returned (.bool (decide (l.getD (othr above g) 0 = 3))) ∧ OwnI w' base (.slice (some ⟨gl, 0, none⟩) l.length cl) (lendL l above g) ∧ Fr (fun b => (Value.slice (some ⟨gl, 0, none⟩) l.length cl).ownBlock = some b) w w' := by
  have HG := Lib.hid (group_any va above (g : Nat) w ha h2 hla (by omega) (by omega))
  obtain ⟨o1, o2, -, -⟩ := othr_spec h2 hs hg
  have HO := Lib.hid ho
  have HLd := Lib.hid (show lendL l above g = if l.getD (othr above g) 0 = 3 then (l.set (othr above g) 2).set g 2 else l.set (min g (othr above g)) 3 from rfl)
  obtain ⟨a1, c1, rfl, -, -⟩ := ha.numS
  have hco := ho.rd.num_at o1
  rw [Nat.zero_add] at hco
  have HX := Lib.hid (show othr above g = if (g : Int) = frm above (grpG above (g : Nat)) then g + 1 else g - 1 from rfl)
  have HF := Lib.hid (show ∀ f : Int, f = frm above (grpG above (g : Nat)) → 0 ≤ f ∧ f ≤ (g : Int) from by
    rintro f rfl
    have k1 := grp_spec above (g : Nat) (by omega) (by omega)
    exact ⟨frm_nonneg (pos_of h2) _, k1.2.1⟩)
  generalize hfq : frm above (grpG above (g : Nat)) = f at *
  have hfb := HF.out f rfl
  generalize othr above g = o at *
  generalize lendL l above g = l' at *
  clear h2 hs hla ho ha hfq HF
  by_cases hgf : (g : Int) = f
  · have ho1 : o = g + 1 := by rw [HX.out, if_pos hgf]
    subst ho1
    clear HX
    subst hgf
    by_cases h3 : l.getD (g + 1) 0 = 3
    · have HE := Lib.hid (HLd.out.trans (if_pos h3))
      have HD := Lib.hid (decide_eq_true h3)
      rw [h3] at hco
      clear HLd h3
      go_enter Try.func77, Try.ntmps77
      go_wp2_with fail
      refine HG.out.mono ?_
      rintro e wg ⟨rfl, rfl⟩
      go_wp2_with (first | (refine wpList_store_num rfl (.tmp 32) (.const (.int .i64 2)) rfl base gl l.length cl l (g + 1) o1 2 HO.out rfl rfl ?_; intro wS q1 q2; clear hco; have HQ1 := Lib.hid q1; have HQ2 := Lib.hid q2; clear q1 q2) | (refine wpList_store_num rfl (.tmp 33) (.const (.int .i64 2)) rfl base gl l.length cl (l.set (g + 1) 2) (g) (by rw [List.length_set]; exact hg) 2 HQ1.out rfl rfl ?_; intro wT q1 q2; have HQ3 := Lib.hid q1; have HQ4 := Lib.hid q2; clear q1 q2))
      go_ret
      exact ⟨by rw [HD.out]; rfl, by rw [HE.out]; exact HQ3.out, HQ2.out.trans HQ4.out⟩
    · have HE := Lib.hid (HLd.out.trans (if_neg h3))
      have HD := Lib.hid (decide_eq_false h3)
      clear HLd
      generalize l.getD (g + 1) 0 = x at hco h3 HD
      have HM := Lib.hid (show min (g) (g + 1) = g by omega)
      have hmin : min (g : Int) ((g : Int) + 1) = (g : Int) := by omega
      go_enter Try.func77, Try.ntmps77
      go_wp2_with fail
      refine HG.out.mono ?_
      rintro e wg ⟨rfl, rfl⟩
      go_wp2_with (first | (refine wpList_store_num rfl (.tmp 38) (.const (.int .i64 3)) rfl base gl l.length cl l (g) (by omega) 3 HO.out rfl rfl ?_; intro wS q1 q2; clear hco; have HQ1 := Lib.hid q1; have HQ2 := Lib.hid q2; clear q1 q2))
      go_ret
      exact ⟨by rw [HD.out]; rfl, by rw [HE.out, HM.out]; exact HQ1.out, HQ2.out⟩
  · have ho1 : g = o + 1 := by have := HX.out; rw [if_neg hgf] at this; omega
    subst ho1
    clear HX
    by_cases h3 : l.getD (o) 0 = 3
    · have HE := Lib.hid (HLd.out.trans (if_pos h3))
      have HD := Lib.hid (decide_eq_true h3)
      rw [h3] at hco
      clear HLd h3
      go_enter Try.func77, Try.ntmps77
      go_wp2_with fail
      refine HG.out.mono ?_
      rintro e wg ⟨rfl, rfl⟩
      go_wp2_with (first | (refine wpList_store_num rfl (.tmp 32) (.const (.int .i64 2)) rfl base gl l.length cl l (o) o1 2 HO.out rfl rfl ?_; intro wS q1 q2; clear hco; have HQ1 := Lib.hid q1; have HQ2 := Lib.hid q2; clear q1 q2) | (refine wpList_store_num rfl (.tmp 33) (.const (.int .i64 2)) rfl base gl l.length cl (l.set (o) 2) (o + 1) (by rw [List.length_set]; exact hg) 2 HQ1.out rfl rfl ?_; intro wT q1 q2; have HQ3 := Lib.hid q1; have HQ4 := Lib.hid q2; clear q1 q2))
      go_ret
      exact ⟨by rw [HD.out]; rfl, by rw [HE.out]; exact HQ3.out, HQ2.out.trans HQ4.out⟩
    · have HE := Lib.hid (HLd.out.trans (if_neg h3))
      have HD := Lib.hid (decide_eq_false h3)
      clear HLd
      generalize l.getD (o) 0 = x at hco h3 HD
      have HM := Lib.hid (show min (o + 1) (o) = o by omega)
      have hmin : min ((o : Int) + 1) (o : Int) = (o : Int) := by omega
      go_enter Try.func77, Try.ntmps77
      go_wp2_with fail
      refine HG.out.mono ?_
      rintro e wg ⟨rfl, rfl⟩
      go_wp2_with (first | (refine wpList_store_num rfl (.tmp 38) (.const (.int .i64 3)) rfl base gl l.length cl l (o) (by omega) 3 HO.out rfl rfl ?_; intro wS q1 q2; clear hco; have HQ1 := Lib.hid q1; have HQ2 := Lib.hid q2; clear q1 q2))
      go_ret
      exact ⟨by rw [HD.out]; rfl, by rw [HE.out, HM.out]; exact HQ1.out, HQ2.out⟩
end Go.Proofs.Ytfgammcefaomeaa
/- tree.Insert. -/
namespace Go.Proofs.Ytfgammcefaomeaa
open Go Go.RowKit
set_option linter.unusedSimpArgs false
def InsSays (ids : List Int) (ls : List (List Int)) (id : Int) (w : World) (e : Ending) (w' : World) : Prop :=
  ∃ vi vl vs, e = .returned (.tuple #[.agg (shpL vi vl).toArray, .int .i64 (insE ids ls id)]) ∧ OwnTr w' w.heap.size vi vl vs (insIds ids ls id) (insLv ids ls id) ∧ Aft w w'
theorem InsSays.bad {ids : List Int} {ls : List (List Int)} {id : Int} {w w' : World} {c : Int} (h : insE ids ls id = c) (h0 : c ≠ 0) (ha : Aft w w') : InsSays ids ls id w (.returned (.tuple #[.agg (shpL (.slice none 0 0) (.slice none 0 0)).toArray, .int .i64 c])) w' := by
  subst h
  refine ⟨.slice none 0 0, .slice none 0 0, [], rfl, ?_, ha⟩
  unfold insIds insLv
  rw [if_neg h0, if_neg h0]
  exact OwnTr.nil _ _
theorem InsSays.good {ids ids' : List Int} {ls ls' : List (List Int)} {id : Int} {w w' : World} {vi vl : Value} {vs : List Value} (h : insE ids ls id = 0) (h1 : insIds ids ls id = ids') (h2 : insLv ids ls id = ls') (ho : OwnTr w' w.heap.size vi vl vs ids' ls') (ha : Aft w w') : InsSays ids ls id w (.returned (.tuple #[.agg (shpL vi vl).toArray, .int .i64 0])) w' :=
  ⟨vi, vl, vs, by rw [h], by rw [h1, h2]; exact ho, ha⟩
instance (S : Nat → Prop) (w0 : World) : Inhabited (LaterF S w0) := ⟨⟨w0, Fr.refl _ _⟩⟩
theorem OwnTr.snoc {w wA w' : World} {base : Nat} {vi vl vl' u : Value} {vs : List Value} {ids x : List Int} {ls : List (List Int)} (h : OwnTr w base vi vl vs ids ls) (ha : Aft w wA) (hu : OwnI wA base u x) (hq : ∀ g, u.ownBlock = some g → w.heap.size ≤ g)
    (hrow : w'.ownsRow base 22 1 vl' (vs ++ [u]).length (vs ++ [u])) (hf : Fr (fun b => vl.ownBlock = some b) wA w') : OwnTr w' base vi vl' (vs ++ [u]) ids (ls ++ [x]) := by
  refine ⟨(h.ids.aft ha).fr hf fun g hg e => h.lv.row_ne h.ids hg e, ⟨hrow, by rw [List.length_append, List.length_append, h.lv.len]; rfl, fun i u' hi => ?_, fun i j u1 u2 g hij hi hj hg => ?_⟩, fun i u' g hi hg => ?_⟩
  · by_cases hlt : i < vs.length
    · rw [List.getElem?_append_left hlt] at hi
      rw [List.getD_eq_getElem?_getD, List.getElem?_append_left (by rw [← h.lv.len]; exact hlt), ← List.getD_eq_getElem?_getD]
      exact ((h.lv.own i u' hi).aft ha).fr hf fun g hg e => h.lv.row_ne (h.lv.own i u' hi) hg e
    · obtain ⟨e1, e2⟩ := getElem?_snoc hi hlt
      subst e2
      rw [e1, h.lv.len, List.getD_eq_getElem?_getD, List.getElem?_append_right (Nat.le_refl _), Nat.sub_self]
      exact hu.fr hf fun g hg e => by
        have h1 := hq g hg
        have h2 := (own_lt h.lv.row e).2
        omega
  · by_cases hlt : j < vs.length
    · rw [List.getElem?_append_left hlt] at hj
      rw [List.getElem?_append_left (by omega)] at hi
      exact h.lv.dis i j u1 u2 g hij hi hj hg
    · obtain ⟨e1, e2⟩ := getElem?_snoc hj hlt
      subst e2
      rw [List.getElem?_append_left (by omega)] at hi
      intro e
      have h1 := hq g e
      have h2 := ((h.lv.own i u1 hi).lt hg).2
      omega
  · by_cases hlt : i < vs.length
    · rw [List.getElem?_append_left hlt] at hi
      exact h.dis i u' g hi hg
    · obtain ⟨e1, e2⟩ := getElem?_snoc hi hlt
      subst e2
      intro e
      have h1 := hq g hg
      have h2 := (h.ids.lt e).2
      omega
theorem nxt_max (ids : List Int) (id : Int) (h : ids.length ≤ 1048576) : max (wrap64 (((cnt ids id : Nat) : Int) - 1)) 0 = (nxt ids id : Nat) := by
  have h1 := cnt_le ids id
  unfold nxt
  by_cases hz : cnt ids id = 0
  · rw [hz]
    unfold wrap64
    omega
  · rw [wrap64_mid (by omega) (by omega)]
    omega
set_option maxRecDepth 100000 in
set_option maxHeartbeats 4000000 in
theorem tinsert_any (vi vl : Value) (ids : List Int) (ls : List (List Int)) (id : Int) (w : World) (hi : Rd w vi (zv ids)) (hl : RdLs w vl ls) (hs : Small ids ls) :
    Calls Try.prog 42 #[.agg (shpL vi vl).toArray, .int .i64 id] w (InsSays ids ls id w) := by
  have HCk := Lib.hid (fun (wx : World) (ha : Aft w wx) => tcheck_any vi vl ids ls wx (hi.grow ha) (hl.aft ha) hs)
  have HFd := Lib.hid (fun (wx : World) (ha : Aft w wx) => find_any vi vl ids id wx (hi.grow ha) hs.fi)
  have HOw := Lib.hid (fun (wx : World) (ha : Aft w wx) => own_any vi vl ids ls wx (hi.grow ha) (hl.aft ha) hs)
  have HS := Lib.hid hs
  obtain ⟨ao, cap, rfl, -, -⟩ := hi.numS
  obtain ⟨bo, dap, rfl, -⟩ := hl.shape
  have HL := Lib.hid (Led.start w)
  clear hi hl hs
  go_enter Try.func42, Try.ntmps42
  go_wp2_with (first | (refine wpList_boxO rfl 25 (.tmp 0) rfl (.agg (shpL (.slice ao ids.length cap) (.slice bo ls.length dap)).toArray) rfl (.cells (shpL (.slice ao ids.length cap) (.slice bo ls.length dap)).toArray 25) (box_shp _) ?_; intro wB aa gg zz; replace HL := Lib.hid (HL.out.alloc aa gg.out); clear aa gg zz; try simp only [List.nil_append, List.cons_append, List.set_cons_zero, List.set_cons_succ] at HL) | (refine wpList_allocO rfl 25 rfl (.cells (shpL (.slice none 0 0) (.slice none 0 0)).toArray 25) alloc_shp ?_; intro w' aa gg zz; replace HL := Lib.hid (HL.out.alloc aa gg.out); clear aa gg zz; try simp only [List.nil_append, List.cons_append, List.set_cons_zero, List.set_cons_succ] at HL) | (refine wpList_load_rowG (by kernel_rfl) 25 (.tmp 2) rfl _ rfl _ _ _ _ (HL.out.get 0 rfl) Try.underlying25 rfl (shp_info _ _) ?_))
  refine (HCk.out _ HL.out.aft).mono ?_
  rintro e w2 ⟨rfl, h2⟩
  replace HL := Lib.hid (HL.out.call h2)
  clear h2 HCk
  by_cases hok : OkT ids ls
  rotate_left
  · have HE := Lib.hid (show insE ids ls id = 1 from if_pos (.inl hok))
    rw [chk_bad hok]
    go_wp2_with (first | (refine wpList_buildO (by kernel_rfl) 25 #[] rfl #[] (by kernel_rfl) _ (build_shp0) ?_) | (refine wpList_store_shp rfl (.tmp 4) (.tmp 24) _ _ _ (.slice none 0 0) (.slice none 0 0) rfl rfl rfl rfl rfl (HL.out.get 1 rfl) ?_; intro w3 b1 b2 b3; replace HL := Lib.hid (HL.out.store 1 rfl b1 b2 b3); clear b1 b2 b3; try simp only [List.nil_append, List.cons_append, List.set_cons_zero, List.set_cons_succ] at HL))
    refine bodyPost_ret (results_cell_tmp rfl _ _ _ 25 _ (0, 0) _ rfl (HL.out.get 1 rfl) Try.underlying25 rfl (shp_info _ _)) rfl ?_
    exact InsSays.bad HE.out (by decide) HL.out.aft
  rw [chkT_zero.2 hok]
  by_cases hid : id < 0 ∨ 1048576 < id
  · have HE := Lib.hid (show insE ids ls id = 1 from if_pos (.inr hid))
    have hn : ¬ id < 0 → 1048576 < id := fun q => by omega
    by_cases h0 : id < 0
    all_goals
      first | (have hn2 := hn h0) | skip
      clear hn hid
      go_wp2_with (first | (refine wpList_buildO (by kernel_rfl) 25 #[] rfl #[] (by kernel_rfl) _ (build_shp0) ?_) | (refine wpList_store_shp rfl (.tmp 4) (.tmp 24) _ _ _ (.slice none 0 0) (.slice none 0 0) rfl rfl rfl rfl rfl (HL.out.get 1 rfl) ?_; intro w3 b1 b2 b3; replace HL := Lib.hid (HL.out.store 1 rfl b1 b2 b3); clear b1 b2 b3; try simp only [List.nil_append, List.cons_append, List.set_cons_zero, List.set_cons_succ] at HL))
      refine bodyPost_ret (results_cell_tmp rfl _ _ _ 25 _ (0, 0) _ rfl (HL.out.get 1 rfl) Try.underlying25 rfl (shp_info _ _)) rfl ?_
      exact InsSays.bad HE.out (by decide) HL.out.aft
  have hid1 : ¬ id < 0 := fun q => hid (.inl q)
  have hid2 : ¬ 1048576 < id := fun q => hid (.inr q)
  have HId := Lib.hid (show insE ids ls id = if id ∈ ids then 7 else if ids.length = 1000 then 8 else 0 from if_neg (by
    rintro (q | q | q)
    · exact q hok
    · exact hid1 q
    · exact hid2 q))
  have HOk := Lib.hid hok
  clear hok hid
  go_wp2_with (first | (refine wpList_load_rowG (by kernel_rfl) 25 (.tmp 2) rfl _ rfl _ _ _ _ (HL.out.get 0 rfl) Try.underlying25 rfl (shp_info _ _) ?_))
  refine (HFd.out _ HL.out.aft).mono ?_
  rintro e w3 ⟨rfl, h3⟩
  replace HL := Lib.hid (HL.out.call h3)
  clear h3 HFd hid1 hid2
  by_cases hin : id ∈ ids
  · have HE := Lib.hid (show insE ids ls id = 7 by rw [HId.out, if_pos hin])
    rw [decide_eq_true hin]
    clear hin
    go_wp2_with (first | (refine wpList_buildO (by kernel_rfl) 25 #[] rfl #[] (by kernel_rfl) _ (build_shp0) ?_) | (refine wpList_store_shp rfl (.tmp 4) (.tmp 33) _ _ _ (.slice none 0 0) (.slice none 0 0) rfl rfl rfl rfl rfl (HL.out.get 1 rfl) ?_; intro w3 b1 b2 b3; replace HL := Lib.hid (HL.out.store 1 rfl b1 b2 b3); clear b1 b2 b3; try simp only [List.nil_append, List.cons_append, List.set_cons_zero, List.set_cons_succ] at HL))
    refine bodyPost_ret (results_cell_tmp rfl _ _ _ 25 _ (0, 0) _ rfl (HL.out.get 1 rfl) Try.underlying25 rfl (shp_info _ _)) rfl ?_
    exact InsSays.bad HE.out (by decide) HL.out.aft
  rw [decide_eq_false hin]
  have HNin := Lib.hid hin
  have hi0 := shp_i (HL.out.get 0 rfl)
  clear hin
  by_cases hfull : ids.length = 1000
  · have HE := Lib.hid (show insE ids ls id = 8 by rw [HId.out, if_neg HNin.out, if_pos hfull])
    have hfi : ((ids.length : Nat) : Int) = 1000 := by omega
    clear hfull
    go_wp2_with (first | (refine wpList_buildO (by kernel_rfl) 25 #[] rfl #[] (by kernel_rfl) _ (build_shp0) ?_) | (refine wpList_store_shp rfl (.tmp 4) (.tmp 39) _ _ _ (.slice none 0 0) (.slice none 0 0) rfl rfl rfl rfl rfl (HL.out.get 1 rfl) ?_; intro w3 b1 b2 b3; replace HL := Lib.hid (HL.out.store 1 rfl b1 b2 b3); clear b1 b2 b3; try simp only [List.nil_append, List.cons_append, List.set_cons_zero, List.set_cons_succ] at HL))
    refine bodyPost_ret (results_cell_tmp rfl _ _ _ 25 _ (0, 0) _ rfl (HL.out.get 1 rfl) Try.underlying25 rfl (shp_info _ _)) rfl ?_
    exact InsSays.bad HE.out (by decide) HL.out.aft
  have HE := Lib.hid (show insE ids ls id = 0 by rw [HId.out, if_neg HNin.out, if_neg hfull])
  have hfi : ¬ ((ids.length : Nat) : Int) = 1000 := by omega
  clear hfull
  go_wp2_with (first | (refine wpList_load_rowG (by kernel_rfl) 25 (.tmp 2) rfl _ rfl _ _ _ _ (HL.out.get 0 rfl) Try.underlying25 rfl (shp_info _ _) ?_))
  clear hi0
  refine (HOw.out _ HL.out.aft).mono ?_
  rintro e w4 ⟨vi', vl', vs, rfl, ho, h4⟩
  have HT := Lib.hid (ho.mono HL.out.aft.size)
  obtain ⟨a1, c1, b1, d1, rfl, rfl⟩ := ho.shape
  replace HL := Lib.hid (HL.out.call h4)
  clear h4 ho HOw
  go_wp2_with (first | (refine wpList_store_shp rfl (.tmp 2) (.tmp 41) _ _ _ (.slice a1 ids.length c1) (.slice b1 ls.length d1) rfl rfl rfl rfl rfl (HL.out.get 0 rfl) ?_; intro w5 b1 b2 b3; replace HT := Lib.hid (HT.out.stored (HL.out.get 0 rfl) (by decide) (by decide) b2.out); replace HL := Lib.hid (HL.out.store 0 rfl b1 b2 b3); clear b1 b2 b3; try simp only [List.nil_append, List.cons_append, List.set_cons_zero, List.set_cons_succ] at HL; have hi0 := shp_i (HL.out.get 0 rfl)))
  clear hi0
  have HT6 := Lib.hid (HT.out.aft (Aft.alloc w5 (.cells #[.int .i64 id] 3 (0, 0))))
  have HL6 := Lib.hid (HL.out.call (Aft.alloc w5 (.cells #[.int .i64 id] 3 (0, 0))))
  have hg6 := heap_alloc_new w5 (.cells #[.int .i64 id] 3 (0, 0))
  have hne : (Value.slice a1 ids.length c1).ownBlock ≠ some w5.heap.size := fun q => absurd (HT.out.ids.lt q).2 (Nat.lt_irrefl _)
  have hci : cnt ids id ≤ ids.length := cnt_le ids id
  refine (insI_any _ ids (cnt ids id) id w5.heap.size w.heap.size _ HT6.out.ids hci HS.out.fi (HL6.out.aft.size) hg6 hne).mono ?_
  clear hg6 hne hci HL HT
  rintro e w7 ⟨vi2, rfl, ho, hf, hn⟩
  have HT := Lib.hid (HT6.out.turnI hf ho hn)
  have HL := Lib.hid (HL6.out.frO (show (w5.alloc (.cells #[.int .i64 id] 3 (0, 0))).ownsRow w.heap.size 3 1 (.slice a1 ids.length c1) ids.length (zv ids) from HT6.out.ids) (Nat.le_refl _) hf rfl)
  clear ho hf hn HT6 HL6
  obtain ⟨a2, c2, hv2⟩ := HT.out.ids.shape
  subst hv2
  have hlen : (putI ids (cnt ids id) id).length = ids.length + 1 := putI_length id (cnt_le ids id)
  replace HT := Lib.hid (show OwnTr w7 w.heap.size (.slice a2 (ids.length + 1) c2) (.slice b1 ls.length d1) vs (putI ids (cnt ids id) id) ls from hlen ▸ HT.out)
  rw [hlen]
  clear hlen
  by_cases h0 : ids.length = 0
  · have hone : ((ids.length : Nat) : Int) + 1 = 1 := by omega
    have HI := Lib.hid (show insIds ids ls id = putI ids (cnt ids id) id from if_pos HE.out)
    have HV := Lib.hid (show insLv ids ls id = ls from (if_pos HE.out).trans (if_pos h0))
    clear h0
    go_wp2_with (first | (refine wpList_store_shpI rfl (.tmp 48) (.tmp 47) _ _ _ (.slice a2 (ids.length + 1) c2) rfl rfl rfl rfl rfl (HL.out.get 0 rfl) ?_; intro w8 b1 b2 b3; replace HT := Lib.hid (HT.out.stored (HL.out.get 0 rfl) (by decide) (by decide) b2.out); replace HL := Lib.hid (HL.out.store 0 rfl b1 b2 b3); clear b1 b2 b3; try simp only [List.nil_append, List.cons_append, List.set_cons_zero, List.set_cons_succ] at HL; have hi0 := shp_i (HL.out.get 0 rfl)) | (refine wpList_load_rowG (by kernel_rfl) 25 (.tmp 2) rfl _ rfl _ _ _ _ (HL.out.get 0 rfl) Try.underlying25 rfl (shp_info _ _) ?_) | (refine wpList_store_shp rfl (.tmp 4) (.tmp 53) _ _ _ (.slice a2 (ids.length + 1) c2) (.slice b1 ls.length d1) rfl rfl rfl rfl rfl (HL.out.get 1 rfl) ?_; intro w9 b1 b2 b3; clear hi0; replace HT := Lib.hid (HT.out.stored (HL.out.get 1 rfl) (by decide) (by decide) b2.out); replace HL := Lib.hid (HL.out.store 1 rfl b1 b2 b3); clear b1 b2 b3; try simp only [List.nil_append, List.cons_append, List.set_cons_zero, List.set_cons_succ] at HL))
    refine bodyPost_ret (results_cell_tmp rfl _ _ _ 25 _ (0, 0) _ rfl (HL.out.get 1 rfl) Try.underlying25 rfl (shp_info _ _)) rfl ?_
    exact InsSays.good HE.out HI.out HV.out HT.out HL.out.aft
  have hone : ¬ ((ids.length : Nat) : Int) + 1 = 1 := by omega
  have HI := Lib.hid (show insIds ids ls id = putI ids (cnt ids id) id from if_pos HE.out)
  have HV := Lib.hid (show insLv ids ls id = insL ls (nxt ids id : Nat) from (if_pos HE.out).trans (if_neg h0))
  have hmax := nxt_max ids id HS.out.fi
  clear h0
  go_wp2_with (first | (refine wpList_store_shpI rfl (.tmp 48) (.tmp 47) _ _ _ (.slice a2 (ids.length + 1) c2) rfl rfl rfl rfl rfl (HL.out.get 0 rfl) ?_; intro w8 b1 b2 b3; replace HT := Lib.hid (HT.out.stored (HL.out.get 0 rfl) (by decide) (by decide) b2.out); replace HL := Lib.hid (HL.out.store 0 rfl b1 b2 b3); clear b1 b2 b3; try simp only [List.nil_append, List.cons_append, List.set_cons_zero, List.set_cons_succ] at HL; have hi0 := shp_i (HL.out.get 0 rfl); have hl0 := shp_l (HL.out.get 0 rfl)))
  have HNx := Lib.hid (show ((nxt ids id : Nat) : Int) < (ids.length : Nat) by
    have h1 := cnt_le ids id
    have h2 : ¬ ids.length = 0 := fun q => hone (by omega)
    unfold nxt
    omega)
  have hob : ((((ids.length : Nat) : Int) + 1 == 1) : Bool) = false := by simpa using hone
  rw [hob]
  clear hmax hone hi0 hl0 HId HNin hfi hob
  generalize hIQ : putI ids (cnt ids id) id = ids' at *
  clear hIQ
  go_loopw [8, 60] (fun v8 v60 wr => ∃ (k a n : Nat) (us : List Value) (done : List (List Int)), k ≤ ls.length ∧ v60 = .int .i64 (k : Int) ∧ v8 = .int .i64 (a : Int) ∧ done.length = k ∧ insL ls (nxt ids id : Nat) = done ++ insL (ls.drop k) (a : Nat) ∧ okLv (n : Nat) (ls.drop k) = true ∧ a < n ∧ OwnTr wr w.heap.size (.slice a2 (ids.length + 1) c2) (.slice b1 ls.length d1) us ids' (done ++ ls.drop k) ∧ Led w wr [(w.heap.size, .cells (shpL (.slice a2 (ids.length + 1) c2) (.slice b1 ls.length d1)).toArray 25), (wB.heap.size, .cells (shpL (.slice none 0 0) (.slice none 0 0)).toArray 25)]) (fun _ v _ => ls.length - (intOf v).toNat)
  case atStart => exact ⟨0, nxt ids id, ids.length, vs, [], by omega, rfl, rfl, rfl, rfl, HOk.out.2, by have := HNx.out; omega, HT.out, HL.out⟩
  case round =>
    clear HL HT
    obtain ⟨k, a, n, us, done, hk, rfl, rfl, hdl, hins, hok, han, hT, hL⟩ := hrel
    have HL := Lib.hid hL
    have HT := Lib.hid hT
    have HDl := Lib.hid hdl
    have HIn := Lib.hid hins
    have HOl := Lib.hid hok
    clear hL hT hdl hins hok
    by_cases hlt : k < ls.length
    · have hlt' : (k : Int) < (ls.length : Nat) := by omega
      have hfl := HS.out.fl
      have hd := drop_cons ls k hlt
      have hfv := HS.out.fv _ (getD_mem hlt)
      rw [hd] at HIn HOl HT
      generalize ls.getD k [] = l at *
      generalize hrq : ls.drop (k + 1) = rest at *
      have HRq := Lib.hid hrq
      clear hrq
      clear hd
      obtain ⟨h2n, hl23, hsum, hokr⟩ := okLv_cons HOl.out
      clear HOl
      have HOr := Lib.hid hokr
      have HSm := Lib.hid hsum
      have H23 := Lib.hid hl23
      have hln := HT.out.lv.len
      rw [List.length_append, List.length_cons, HDl.out] at hln
      have hkl : k < us.length := by omega
      obtain ⟨u, hu⟩ : ∃ u, us[k]? = some u := ⟨_, List.getElem?_eq_getElem hkl⟩
      have hgd : (done ++ l :: rest).getD k [] = l := by
        rw [List.getD_eq_getElem?_getD, List.getElem?_append_right (by rw [HDl.out]; exact Nat.le_refl _), HDl.out, Nat.sub_self]
        rfl
      have hou : OwnI wr w.heap.size u l := by
        have := HT.out.lv.own k u hu
        rwa [hgd] at this
      have hlp : 0 < l.length := by
        rcases l with _ | ⟨x, l⟩
        · simp at hsum
          omega
        · exact Nat.succ_pos _
      obtain ⟨gu, cu, curu, rfl, hgu, hcu⟩ := own_row_blk hou hlp
      have hrow := HT.out.lv.row
      obtain ⟨gL, cL, cur, he, hgb, hgL⟩ := own_row_blk hrow (by omega)
      injection he with he1 he2 he3
      subst he1 he3
      have hgr := group_any (.slice (some ⟨gu, 0, none⟩) l.length cu) l (a : Nat) wr hou.rd hl23 hfv (by omega) (by omega)
      have HGs := Lib.hid (grp_spec l (a : Nat) (by omega) (by omega))
      have hc0 : wr.cell? ⟨gL, k, none⟩ = some (.slice (some ⟨gu, 0, none⟩) l.length cu) := by
        obtain ⟨a1, c1, he', -, -, -, h4⟩ := Rd.of_own hrow
        injection he' with q1 q2 q3
        have := h4 ⟨gL, 0, none⟩ (by rw [← q1]) k _ hu
        rwa [Addr.add_lit, Nat.zero_add] at this
      have HOu := Lib.hid hou
      have HSet := Lib.hid (fun (l0 l' : List Int) => show (done ++ l0 :: rest).set k l' = done ++ l' :: rest by
        rw [List.set_append_right _ _ (by rw [HDl.out]; exact Nat.le_refl _), HDl.out, Nat.sub_self]
        rfl)
      have HU := Lib.hid hu
      have HGd := Lib.hid hgd
      have HHr := Lib.hid hgr
      have HIc := Lib.hid (show insL (l :: rest) (a : Nat) = if l.getD (grpG l (a : Nat)) 0 = 2 then l.set (grpG l (a : Nat)) 3 :: rest else putI (l.set (grpG l (a : Nat)) 2) (grpG l (a : Nat) + 1) 2 :: insL rest (grpG l (a : Nat) : Nat) from rfl)
      generalize grpG l (a : Nat) = g at *
      have hgl := HGs.out.1
      have hc1 : wr.cell? ⟨gu, g, none⟩ = some (.int .i64 (l.getD g 0)) := by
        have := Rd.num_at HOu.out.rd hgl
        rwa [Nat.zero_add] at this
      clear hou hu hgd hgr hl23 hsum hokr hgu hcu hrow hgb hgL he2 hln hlp HGs
      go_wp2_with fail
      refine HHr.out.mono ?_
      rintro e wg ⟨rfl, rfl⟩
      by_cases h2 : l.getD g 0 = 2
      · rw [h2] at hc1
        have HV2 := Lib.hid (show insLv ids ls id = done ++ l.set g 3 :: rest by rw [HV.out, HIn.out, HIc.out, if_pos h2])
        clear h2 HV HIn HIc
        go_wp2_with (first | (refine wpList_store_num rfl (.tmp 78) (.const (.int .i64 3)) rfl w.heap.size gu l.length cu l g hgl 3 HOu.out rfl rfl ?_; intro wS q1 q2; clear hc0 hc1; replace HT := Lib.hid (HSet.out _ _ ▸ HT.out.cell HU.out q2 q1); replace HL := Lib.hid (HL.out.frO HOu.out (Nat.le_refl _) q2 rfl); clear q1 q2) | (refine wpList_load_rowG (by kernel_rfl) 25 (.tmp 2) rfl _ rfl _ _ _ _ (HL.out.get 0 rfl) Try.underlying25 rfl (shp_info _ _) ?_) | (refine wpList_store_shp rfl (.tmp 4) (.tmp 79) _ _ _ (.slice a2 (ids.length + 1) c2) (.slice (some ⟨gL, 0, none⟩) ls.length d1) rfl rfl rfl rfl rfl (HL.out.get 1 rfl) ?_; intro w9 b1 b2 b3; replace HT := Lib.hid (HT.out.stored (HL.out.get 1 rfl) (by decide) (by decide) b2.out); replace HL := Lib.hid (HL.out.store 1 rfl b1 b2 b3); clear b1 b2 b3; try simp only [List.nil_append, List.cons_append, List.set_cons_zero, List.set_cons_succ] at HL))
        refine bodyPost_ret (results_cell_tmp rfl _ _ _ 25 _ (0, 0) _ rfl (HL.out.get 1 rfl) Try.underlying25 rfl (shp_info _ _)) rfl ?_
        exact InsSays.good HE.out HI.out HV2.out HT.out HL.out.aft
      · have hIc := HIc.out
        rw [if_neg h2] at hIc
        rw [hIc] at HIn
        clear HIc hIc HSm H23
        generalize l.getD g 0 = x at h2 hc1
        go_wp2_with (first | (refine wpList_store_num rfl (.tmp 82) (.const (.int .i64 2)) rfl w.heap.size gu l.length cu l g hgl 2 HOu.out rfl rfl ?_; intro wS q1 q2; clear hc0 hc1 h2; replace HT := Lib.hid (HSet.out _ _ ▸ HT.out.cell HU.out q2 q1); replace HL := Lib.hid (HL.out.frO HOu.out (Nat.le_refl _) q2 rfl); replace HOu := Lib.hid q1; clear q1 q2; have hl2 : (l.set g (2 : Int)).length = l.length := List.length_set ..; generalize l.set g 2 = l2 at *; have HL2 := Lib.hid hl2; clear hl2; have HLq := Lib.hid (fun (wx : World) (hf : Fr (fun b => (Value.slice (some ⟨gu, 0, none⟩) l.length cu).ownBlock = some b) wS wx) => shp_l ((hf.block w.heap.size (heap_lt (HL.out.get 0 rfl)) (fun q => absurd rfl (own_off HOu.out (HL.out.get 0 rfl) (by decide) q))).trans (HL.out.get 0 rfl))); have f1 := fun u : LaterF (fun b => (Value.slice (some ⟨gu, 0, none⟩) l.length cu).ownBlock = some b) wS => HLq.out u.w u.h) | (refine wp_region_lex (fun wz => ∃ u : LaterF (fun b => (Value.slice (some ⟨gu, 0, none⟩) l.length cu).ownBlock = some b) wS, wz = u.w) (fun i => ([6, 7] : List Nat).contains i) 9 (by kernel_rfl) (by kernel_rfl) ⟨⟨wS.drew, (Fr.refl _ _).drew⟩, rfl⟩ ?_))
        change wpLx _ _ _ _ _ _ _ _ _ wS.drew
        have HDa := Lib.hid (show Aft wS wS.drew from (Below.refl _ _).drew)
        generalize wS.drew = wd at *
        simp only [Act.put, List.setIfInBounds_toArray, List.set_cons_succ, List.set_cons_zero]
        repeat (first | (refine lx_skipT (by go_big_quiet_skip; exact wpQuiet_nil trivial) (by kernel_rfl) ?_; simp only [Act.put, List.setIfInBounds_toArray, List.set_cons_succ, List.set_cons_zero]) | (refine lx_quietT rfl (by go_big_quiet_want; exact quiet_false (by assumption)) (by kernel_rfl) rfl ?_; intro Kx hKx; go_big_quiet_op; go_big_quiet_on))
        refine lx_effT rfl (by go_big_quiet_want; exact quiet_false (by assumption)) (by kernel_rfl) ?_; intro Kx hKx; go_wp2_with fail
        have HD := Lib.hid (show Fr (fun b => (Value.slice (some ⟨gu, 0, none⟩) l.length cu).ownBlock = some b) wS wd from Fr.of_below HDa.out)
        refine ⟨⟨⟨_, HD.out.alloc _⟩, rfl⟩, ?_⟩
        have HO6 := Lib.hid ((HOu.out.aft HDa.out).aft (Aft.alloc wd (.cells #[.int .i64 2] 3 (0, 0))))
        have HSz := Lib.hid (Nat.le_trans HL.out.aft.size HDa.out.size)
        have HSd := Lib.hid HDa.out.size
        have hg6 := heap_alloc_new wd (.cells #[.int .i64 2] 3 (0, 0))
        have hne : (Value.slice (some ⟨gu, 0, none⟩) l.length cu).ownBlock ≠ some wd.heap.size := fun q => absurd ((HOu.out.aft HDa.out).lt q).2 (Nat.lt_irrefl _)
        have hcI := insI_any (.slice (some ⟨gu, 0, none⟩) l.length cu) l2 (g + 1) 2 wd.heap.size w.heap.size _ HO6.out (by have := HL2.out; omega) (by have := HL2.out; omega) (Nat.le_trans HSz.out (Aft.alloc wd (.cells #[.int .i64 2] 3 (0, 0))).size) hg6 hne
        rw [show (((g + 1 : Nat)) : Int) = (g : Int) + 1 from rfl] at hcI
        have HCI := Lib.hid hcI
        clear hg6 hne hcI
        refine lx_effT rfl (by go_big_quiet_want; exact quiet_false (by assumption)) (by kernel_rfl) ?_; intro Kx hKx; go_wp2_with fail
        refine HCI.out.mono ?_
        rintro e w7 ⟨u', rfl, ho, hf, hn⟩
        obtain ⟨a6, c6, rfl⟩ := ho.shape
        replace HD := Lib.hid ((HD.out.alloc (.cells #[.int .i64 2] 3 (0, 0))).trans hf)
        have HO7 := Lib.hid ho
        have HN7 := Lib.hid hn
        clear ho hf hn HCI HO6
        go_wp2_with fail
        refine ⟨⟨⟨_, HD.out⟩, rfl⟩, ?_⟩
        repeat (first | (refine lx_skipT (by go_big_quiet_skip; exact wpQuiet_nil trivial) (by kernel_rfl) ?_; simp only [Act.put, List.setIfInBounds_toArray, List.set_cons_succ, List.set_cons_zero]) | (refine lx_quietT rfl (by go_big_quiet_want; exact quiet_false (by assumption)) (by kernel_rfl) rfl ?_; intro Kx hKx; go_big_quiet_op; go_big_quiet_on))
        refine lx_done ?_
        clear f1
        have HR7 := Lib.hid (show w7.ownsRow w.heap.size 22 1 (.slice (some ⟨gL, 0, none⟩) ls.length d1) us.length us from ownsRow_fr HT.out.lv.row HD.out fun q hq e => HT.out.lv.row_ne HOu.out e hq)
        go_wp2_with (first | (refine wpList_store_row1 rfl 22 (by kernel_rfl) (.tmp 91) (.tmp 90) rfl w.heap.size gL ls.length d1 us k hkl (.slice a6 (putI l2 (g + 1) 2).length c6) rfl rfl HR7.out rfl rfl ?_; intro w9 q1 b2 b3; have HQ := Lib.hid q1; have HB2 := b2; have HB3 := Lib.hid b3; clear q1 b2 b3))
        have HF2 := Lib.hid (show Fr (fun b => (Value.slice (some ⟨gL, 0, none⟩) ls.length d1).ownBlock = some b) w7 w9 from fr_store rfl HB2.out HB3.out)
        have HT9 := Lib.hid (HSet.out _ _ ▸ HT.out.turn HU.out HD.out HO7.out (fun q hq => (HN7.out q hq).imp (fun z => z) fun hs => Nat.le_trans HSd.out (Nat.le_trans (Aft.alloc wd (.cells #[.int .i64 2] 3 (0, 0))).size hs)) HF2.out HQ.out)
        have HL9 := Lib.hid ((HL.out.frO HOu.out (Nat.le_refl _) HD.out rfl).frO HR7.out (Nat.le_refl _) HF2.out rfl)
        have HPl := Lib.hid (putI_length (xs := l2) (i := g + 1) 2 (by have := HL2.out; omega))
        clear HT HL HQ HB2 HB3 HO7 HN7
        go_roundw
        case rel =>
          refine ⟨k + 1, g, l.length, us.set k (.slice a6 (putI l2 (g + 1) 2).length c6), done ++ [putI l2 (g + 1) 2], by omega, by go_num, rfl, by rw [List.length_append, HDl.out]; rfl, ?_, ?_, hgl, ?_, HL9.out⟩
          · rw [HIn.out, HRq.out, List.append_assoc]
            rfl
          · rw [HRq.out]
            exact HOr.out
          · rw [HRq.out, List.append_assoc]
            exact HT9.out
        case measure => simp [intOf]; omega
    · obtain rfl : k = ls.length := by omega
      have hlt' : ¬ ((ls.length : Nat) : Int) < (ls.length : Nat) := by omega
      rw [List.drop_length] at HIn HT
      rw [List.append_nil] at HT
      have HV2 := Lib.hid (show insLv ids ls id = done ++ [[2]] from HV.out.trans HIn.out)
      clear hk HV HIn HOl HNx
      have hl0 := shp_l (HL.out.get 0 rfl)
      have hg1 := heap_alloc_new wr (.cells #[.int .i64 2] 3 (0, 0))
      have ha1 := Aft.alloc wr (.cells #[.int .i64 2] 3 (0, 0))
      generalize hw1 : wr.alloc (.cells #[.int .i64 2] 3 (0, 0)) = w1 at *
      have hs1 : w1.heap.size = wr.heap.size + 1 := by rw [← hw1, World.size_alloc]
      have hg2 := heap_alloc_new w1 (.cells #[.slice (some ⟨wr.heap.size, 0, none⟩) 1 1] 22 (0, 0))
      have ha2 := Aft.alloc w1 (.cells #[.slice (some ⟨wr.heap.size, 0, none⟩) 1 1] 22 (0, 0))
      have hon : OwnI w1 w.heap.size (.slice (some ⟨wr.heap.size, 0, none⟩) 1 1) [2] := own_blk (xs := zv [2]) hg1 HL.out.aft.size (by decide)
      subst hw1
      rw [hs1] at hg2
      have HA := Lib.hid (Aft.trans ha1 ha2)
      have HOn := Lib.hid (hon.aft ha2)
      have HN := Lib.hid (show ∀ j u, [Value.slice (some ⟨wr.heap.size, 0, none⟩) 1 1][j]? = some u → ((wr.alloc (.cells #[.int .i64 2] 3 (0, 0))).alloc (.cells #[.slice (some ⟨wr.heap.size, 0, none⟩) 1 1] 22 (0, 0))).cell? ((⟨wr.heap.size + 1, 0, none⟩ : Addr).add j) = some u from fun j u hu => by
        rw [Addr.add_lit, Nat.zero_add]
        exact cell_part hg2 (by simpa using hu))
      obtain ⟨i0, hi0, hz1, hz2, hz3⟩ := info_parts info_ints
      have HIz := Lib.hid hi0
      have HZ1 := Lib.hid hz1
      have HZ2 := Lib.hid hz2
      have HZ3 := Lib.hid hz3
      have HRw := Lib.hid (ownsRow_below HT.out.lv.row fun g hg => Below.block HA.out g (own_lt HT.out.lv.row hg).2)
      have HUl := Lib.hid (show us.length = ls.length by rw [HT.out.lv.len, HDl.out])
      have HSz := Lib.hid (Nat.le_trans HL.out.aft.size HA.out.size)
      have hfl := HS.out.fl
      clear hg1 hg2 ha1 ha2 hon hs1 hi0 hz1 hz2 hz3
      go_wp2_with (first | (at_builtin; refine wpList_append_lies _ rfl (.tmp 95) (.tmp 97) 23 rfl w.heap.size 22 i0 (.slice none 0 0) 1 24 Try.underlying23 HIz.out HZ1.out HZ2.out HZ3.out rfl (by decide) (.slice b1 ls.length d1) us.length us rfl HRw.out ⟨wr.heap.size + 1, 0, none⟩ 1 1 [.slice (some ⟨wr.heap.size, 0, none⟩) 1 1] rfl rfl HN.out (fun u hu => by simp at hu; subst hu; rfl) (by decide) (by have := HUl.out; unfold maxLen; omega) (by have := HUl.out; omega) HSz.out _ rfl ?_; intro gN cN wN k1 k2 k3 k4; clear hl0; have HF := Lib.hid (Fr.of_grown (S := fun b => (Value.slice b1 ls.length d1).ownBlock = some b) k2 fun k hk => hk); replace HL := Lib.hid ((HL.out.call HA.out).frO HRw.out (Nat.le_refl _) HF.out rfl); replace HT := Lib.hid (HT.out.snoc HA.out HOn.out (fun q hq => by cases hq; exact Nat.le_refl _) (by rw [List.length_append]; exact k1) HF.out); clear k1 k2 k3 k4) | (refine wpList_store_shpV rfl (.tmp 99) (.tmp 98) _ _ _ (.slice (some ⟨gN, 0, none⟩) (us.length + 1) cN) rfl rfl rfl rfl rfl (HL.out.get 0 rfl) ?_; intro wV b1 b2 b3; replace HT := Lib.hid (HT.out.stored (HL.out.get 0 rfl) (by decide) (by decide) b2.out); replace HL := Lib.hid (HL.out.store 0 rfl b1 b2 b3); clear b1 b2 b3; try simp only [List.nil_append, List.cons_append, List.set_cons_zero, List.set_cons_succ] at HL) | (refine wpList_load_rowG (by kernel_rfl) 25 (.tmp 2) rfl _ rfl _ _ _ _ (HL.out.get 0 rfl) Try.underlying25 rfl (shp_info _ _) ?_) | (refine wpList_store_shp rfl (.tmp 4) (.tmp 100) _ _ _ (.slice a2 (ids.length + 1) c2) (.slice (some ⟨gN, 0, none⟩) (us.length + 1) cN) rfl rfl rfl rfl rfl (HL.out.get 1 rfl) ?_; intro w9 b1 b2 b3; replace HT := Lib.hid (HT.out.stored (HL.out.get 1 rfl) (by decide) (by decide) b2.out); replace HL := Lib.hid (HL.out.store 1 rfl b1 b2 b3); clear b1 b2 b3; try simp only [List.nil_append, List.cons_append, List.set_cons_zero, List.set_cons_succ] at HL))
      refine bodyPost_ret (results_cell_tmp rfl _ _ _ 25 _ (0, 0) _ rfl (HL.out.get 1 rfl) Try.underlying25 rfl (shp_info _ _)) rfl ?_
      exact InsSays.good HE.out HI.out HV2.out HT.out HL.out.aft
end Go.Proofs.Ytfgammcefaomeaa
/- tree.Build. -/
namespace Go.Proofs.Ytfgammcefaomeaa
open Go Go.RowKit
set_option linter.unusedSimpArgs false
theorem okLv_few : ∀ (ls : List (List Int)) (n : Int), 0 ≤ n → okLv n ls = true → (ls.length : Int) ≤ n ∧ ∀ l ∈ ls, (l.length : Int) ≤ n
  | [], n, h0, _ => ⟨by simpa using h0, fun l hl => by cases hl⟩
  | l :: ls, n, h0, h => by
    obtain ⟨k1, k2, k3, k4⟩ := okLv_cons h
    have h1 := two_le_sum k2
    obtain ⟨h2, h3⟩ := okLv_few ls (l.length : Int) (by omega) k4
    refine ⟨by rw [List.length_cons]; omega, fun x hx => ?_⟩
    rcases List.mem_cons.1 hx with rfl | hx
    · omega
    · have := h3 x hx
      omega
theorem small_of {ids : List Int} {ls : List (List Int)} (h : OkT ids ls) : Small ids ls := by
  obtain ⟨h1, h2⟩ := okLv_few ls (ids.length : Nat) (by omega) h.2
  have h3 := h.1.1
  exact ⟨by omega, by omega, fun l hl => by have := h2 l hl; omega⟩
/-- The members one after another. -/
def bld : List Int → List Int → List (List Int) → Int × List Int × List (List Int)
  | [], ids, ls => (0, ids, ls)
  | id :: xs, ids, ls => if insE ids ls id = 0 then bld xs (insIds ids ls id) (insLv ids ls id) else (insE ids ls id, [], [])
theorem bld_good {id : Int} {xs ids : List Int} {ls : List (List Int)} (h : insE ids ls id = 0) : bld (id :: xs) ids ls = bld xs (insIds ids ls id) (insLv ids ls id) := if_pos h
theorem bld_bad {id : Int} {xs ids : List Int} {ls : List (List Int)} (h : ¬ insE ids ls id = 0) : bld (id :: xs) ids ls = (insE ids ls id, [], []) := if_neg h
theorem ok_empty : OkT [] [] := ⟨⟨by decide, fun x hx => (by cases hx), .nil⟩, by decide⟩
theorem drop_at (xs : List Int) (k : Nat) (h : k < xs.length) : xs.drop k = xs.getD k 0 :: xs.drop (k + 1) := by
  rw [List.drop_eq_getElem_cons h, List.getD_eq_getElem?_getD, List.getElem?_eq_getElem h]
  rfl
def BldSays (xs : List Int) (w : World) (e : Ending) (w' : World) : Prop :=
  ∃ vi vl vs, e = .returned (.tuple #[.agg (shpL vi vl).toArray, .int .i64 (bld xs [] []).1]) ∧ OwnTr w' w.heap.size vi vl vs (bld xs [] []).2.1 (bld xs [] []).2.2 ∧ Aft w w'
theorem BldSays.of {xs : List Int} {w w' : World} {c : Int} {ids : List Int} {ls : List (List Int)} {vi vl : Value} {vs : List Value} (h : bld xs [] [] = (c, ids, ls)) (ho : OwnTr w' w.heap.size vi vl vs ids ls) (ha : Aft w w') : BldSays xs w (.returned (.tuple #[.agg (shpL vi vl).toArray, .int .i64 c])) w' :=
  ⟨vi, vl, vs, by rw [h], by rw [h]; exact ho, ha⟩
set_option maxRecDepth 100000 in
set_option maxHeartbeats 4000000 in
theorem tbuild_any (v : Value) (xs : List Int) (w : World) (h : Rd w v (zv xs)) (hl : xs.length ≤ 1048576) : Calls Try.prog 31 #[v] w (BldSays xs w) := by
  have HR := Lib.hid h
  obtain ⟨ao, cap, rfl, -, -⟩ := h.numS
  have HX := Lib.hid hl
  have HL := Lib.hid (Led.start w)
  clear h hl
  go_enter Try.func31, Try.ntmps31
  go_wp2_with (first | (refine wpList_allocO rfl 25 rfl (.cells (shpL (.slice none 0 0) (.slice none 0 0)).toArray 25) alloc_shp ?_; intro w' aa gg zz; replace HL := Lib.hid (HL.out.alloc aa gg.out); clear aa gg zz; try simp only [List.nil_append, List.cons_append, List.set_cons_zero, List.set_cons_succ] at HL))
  go_loopw [10] (fun v10 wr => ∃ (k : Nat) (ids : List Int) (ls : List (List Int)) (vi vl : Value) (vs : List Value), k ≤ xs.length ∧ v10 = .int .i64 (k : Int) ∧ bld xs [] [] = bld (xs.drop k) ids ls ∧ OkT ids ls ∧ OwnTr wr w.heap.size vi vl vs ids ls ∧ Led w wr [(w.heap.size, .cells (shpL vi vl).toArray 25)]) (fun v _ => xs.length - (intOf v).toNat)
  case atStart => exact ⟨0, [], [], .slice none 0 0, .slice none 0 0, [], by omega, rfl, rfl, ok_empty, OwnTr.nil _ _, HL.out⟩
  case round =>
    clear HL
    obtain ⟨k, ids, ls, vi, vl, vs, hk, rfl, hb, hok, hT, hL⟩ := hrel
    have HL := Lib.hid hL
    have HT := Lib.hid hT
    have HB := Lib.hid hb
    have HOk := Lib.hid hok
    obtain ⟨a1, c1, b1, d1, rfl, rfl⟩ := hT.shape
    clear hL hT hb hok
    have hx := HX.out
    by_cases hlt : k < xs.length
    · have hlt' : (k : Int) < (xs.length : Nat) := by omega
      obtain ⟨g, o, cp, he, -⟩ := (HR.out.grow HL.out.aft).at (show 0 < (zv xs).length by rw [zv_length]; omega)
      injection he with he1 he2 he3
      subst he1 he3
      have hc := Rd.num_at (HR.out.grow HL.out.aft) hlt
      have hd := drop_at xs k hlt
      rw [hd] at HB
      generalize xs.getD k 0 = id at *
      generalize hrq : xs.drop (k + 1) = rest at *
      have HRq := Lib.hid hrq
      have HCI := Lib.hid (tinsert_any _ _ ids ls id wr HT.out.ids.rd HT.out.lv.rd (small_of HOk.out))
      clear hrq hd he2
      go_wp2_with (first | (refine wpList_load_rowG (by kernel_rfl) 25 (.tmp 2) rfl _ rfl _ _ _ _ (HL.out.get 0 rfl) Try.underlying25 rfl (shp_info _ _) ?_))
      refine HCI.out.mono ?_
      rintro e w2 ⟨vi2, vl2, vs2, rfl, ho, h2⟩
      have HT := Lib.hid (ho.mono HL.out.aft.size)
      obtain ⟨a2, c2, b2, d2, rfl, rfl⟩ := ho.shape
      replace HL := Lib.hid (HL.out.call h2)
      clear h2 ho HCI hc
      by_cases hz : insE ids ls id = 0
      · have HG := Lib.hid (show bld xs [] [] = bld rest (insIds ids ls id) (insLv ids ls id) from HB.out.trans (bld_good hz))
        have HZ := Lib.hid (ins_ok hz).1
        rw [hz]
        clear hz
        go_wp2_with (first | (refine wpList_allocO rfl 25 rfl (.cells (shpL (.slice none 0 0) (.slice none 0 0)).toArray 25) alloc_shp ?_; intro w' aa gg zz; replace HT := Lib.hid (HT.out.aft aa); replace HL := Lib.hid (HL.out.alloc aa gg.out); clear aa gg zz; try simp only [List.nil_append, List.cons_append, List.set_cons_zero, List.set_cons_succ] at HL) | (refine wpList_store_shp rfl (.tmp 6) (.tmp 18) _ _ _ (.slice a2 (insIds ids ls id).length c2) (.slice b2 (insLv ids ls id).length d2) rfl rfl rfl rfl rfl (HL.out.get 1 rfl) ?_; intro w9 b1 b2 b3; replace HT := Lib.hid (HT.out.stored (HL.out.get 1 rfl) (by decide) (by decide) b2.out); replace HL := Lib.hid (HL.out.store 1 rfl b1 b2 b3); clear b1 b2 b3; try simp only [List.nil_append, List.cons_append, List.set_cons_zero, List.set_cons_succ] at HL) | (refine wpList_store_shp rfl (.tmp 2) (.tmp 24) _ _ _ (.slice a2 (insIds ids ls id).length c2) (.slice b2 (insLv ids ls id).length d2) rfl rfl rfl rfl rfl (HL.out.get 0 rfl) ?_; intro w9 b1 b2 b3; replace HT := Lib.hid (HT.out.stored (HL.out.get 0 rfl) (by decide) (by decide) b2.out); replace HL := Lib.hid (HL.out.store 0 rfl b1 b2 b3); clear b1 b2 b3; try simp only [List.nil_append, List.cons_append, List.set_cons_zero, List.set_cons_succ] at HL) | (refine wpList_load_rowG (by kernel_rfl) 25 (.tmp 6) rfl _ rfl _ _ _ _ (HL.out.get 1 rfl) Try.underlying25 rfl (shp_info _ _) ?_))
        go_roundw
        case rel =>
          exact ⟨k + 1, insIds ids ls id, insLv ids ls id, _, _, vs2, by omega, by go_num, by rw [HG.out, HRq.out], HZ.out, HT.out, HL.out.cut 1⟩
        case measure => simp [intOf]; omega
      · have HG := Lib.hid (show bld xs [] [] = (insE ids ls id, [], []) from HB.out.trans (bld_bad hz))
        generalize insE ids ls id = c at *
        go_wp2_with (first | (refine wpList_allocO rfl 25 rfl (.cells (shpL (.slice none 0 0) (.slice none 0 0)).toArray 25) alloc_shp ?_; intro w' aa gg zz; replace HT := Lib.hid (HT.out.aft aa); replace HL := Lib.hid (HL.out.alloc aa gg.out); clear aa gg zz; try simp only [List.nil_append, List.cons_append, List.set_cons_zero, List.set_cons_succ] at HL) | (refine wpList_store_shp rfl (.tmp 6) (.tmp 18) _ _ _ (.slice a2 (insIds ids ls id).length c2) (.slice b2 (insLv ids ls id).length d2) rfl rfl rfl rfl rfl (HL.out.get 1 rfl) ?_; intro w9 b1 b2 b3; replace HT := Lib.hid (HT.out.stored (HL.out.get 1 rfl) (by decide) (by decide) b2.out); replace HL := Lib.hid (HL.out.store 1 rfl b1 b2 b3); clear b1 b2 b3; try simp only [List.nil_append, List.cons_append, List.set_cons_zero, List.set_cons_succ] at HL) | (refine wpList_store_shp rfl (.tmp 2) (.tmp 22) _ _ _ (.slice none 0 0) (.slice none 0 0) rfl rfl rfl rfl rfl (HL.out.get 0 rfl) ?_; intro w9 b1 b2 b3; replace HT := Lib.hid (HT.out.stored (HL.out.get 0 rfl) (by decide) (by decide) b2.out); replace HL := Lib.hid (HL.out.store 0 rfl b1 b2 b3); clear b1 b2 b3; try simp only [List.nil_append, List.cons_append, List.set_cons_zero, List.set_cons_succ] at HL) | (refine wpList_buildO (by kernel_rfl) 25 #[] rfl #[] (by kernel_rfl) _ (build_shp0) ?_))
        refine bodyPost_ret (results_cell_tmp rfl _ _ _ 25 _ (0, 0) _ rfl (HL.out.get 0 rfl) Try.underlying25 rfl (shp_info _ _)) rfl ?_
        exact BldSays.of HG.out (OwnTr.nil _ _) HL.out.aft
    · obtain rfl : k = xs.length := by omega
      have hlt' : ¬ ((xs.length : Nat) : Int) < (xs.length : Nat) := by omega
      rw [List.drop_length] at HB
      go_wp2_with (first | (refine wpList_load_rowG (by kernel_rfl) 25 (.tmp 2) rfl _ rfl _ _ _ _ (HL.out.get 0 rfl) Try.underlying25 rfl (shp_info _ _) ?_) | (refine wpList_store_shp rfl (.tmp 2) (.tmp 26) _ _ _ (.slice a1 ids.length c1) (.slice b1 ls.length d1) rfl rfl rfl rfl rfl (HL.out.get 0 rfl) ?_; intro w9 b1 b2 b3; replace HT := Lib.hid (HT.out.stored (HL.out.get 0 rfl) (by decide) (by decide) b2.out); replace HL := Lib.hid (HL.out.store 0 rfl b1 b2 b3); clear b1 b2 b3; try simp only [List.nil_append, List.cons_append, List.set_cons_zero, List.set_cons_succ] at HL))
      refine bodyPost_ret (results_cell_tmp rfl _ _ _ 25 _ (0, 0) _ rfl (HL.out.get 0 rfl) Try.underlying25 rfl (shp_info _ _)) rfl ?_
      exact BldSays.of HB.out HT.out HL.out.aft
end Go.Proofs.Ytfgammcefaomeaa
/- slices.EqualFunc over levels; tree.Same. -/
namespace Go.Proofs.Ytfgammcefaomeaa
open Go Go.RowKit
set_option linter.unusedSimpArgs false
theorem RdLs.head {w : World} {v : Value} {ls : List (List Int)} (h : RdLs w v ls) {i : Nat} (hi : i < ls.length) : ∃ g o cap, v = .slice (some ⟨g, o, none⟩) ls.length cap := by
  obtain ⟨g, o, cap, u, he, -, -⟩ := h.cell hi
  exact ⟨g, o, cap, he⟩
end Go.Proofs.Ytfgammcefaomeaa
/- live of law 10: it answers true. -/
namespace Go.Proofs.Ytfgammcefaomeaa
open Go Go.RowKit
set_option linter.unusedSimpArgs false
theorem bld4 : bld [1, 2, 3, 4] [] [] = (0, [1, 2, 3, 4], [[2, 2], [2]]) := by decide
theorem ok4 : OkT [1, 2, 3, 4] [[2, 2], [2]] := by decide
theorem lit_own {w : World} {base : Nat} (xs : List Int) (hb : base ≤ w.heap.size) (hm : xs.length ≤ maxLen) : OwnI (w.alloc (.cells (zv xs).toArray 3 (0, 0))) base (.slice (some ⟨w.heap.size, 0, none⟩) xs.length xs.length) xs := by
  have := own_blk (base := base) (xs := zv xs) (heap_alloc_new w (.cells (zv xs).toArray 3 (0, 0))) hb (by rw [zv_length]; exact hm)
  rw [zv_length] at this
  exact this
theorem lits (w w1 w2 w3 w4 : World) (h1 : w1 = w.alloc (.cells #[.int .i64 1, .int .i64 2, .int .i64 3, .int .i64 4] 3 (0, 0))) (h2 : w2 = w1.alloc (.cells #[.int .i64 2, .int .i64 2] 3 (0, 0))) (h3 : w3 = w2.alloc (.cells #[.int .i64 2] 3 (0, 0)))
    (h4 : w4 = w3.alloc (.cells #[.slice (some ⟨w.heap.size + 1, 0, none⟩) 2 2, .slice (some ⟨w.heap.size + 1 + 1, 0, none⟩) 1 1] 22 (0, 0))) :
    Aft w w4 ∧ Rd w4 (.slice (some ⟨w.heap.size, 0, none⟩) 4 4) (zv [1, 2, 3, 4]) ∧ RdLs w4 (.slice (some ⟨w.heap.size + 1 + 1 + 1, 0, none⟩) 2 2) [[2, 2], [2]] := by
  have s1 : w1.heap.size = w.heap.size + 1 := by rw [h1, World.size_alloc]
  have s2 : w2.heap.size = w.heap.size + 1 + 1 := by rw [h2, World.size_alloc, s1]
  have s3 : w3.heap.size = w.heap.size + 1 + 1 + 1 := by rw [h3, World.size_alloc, s2]
  have a1 : Aft w w1 := h1 ▸ Aft.alloc w _
  have a2 : Aft w1 w2 := h2 ▸ Aft.alloc w1 _
  have a3 : Aft w2 w3 := h3 ▸ Aft.alloc w2 _
  have a4 : Aft w3 w4 := h4 ▸ Aft.alloc w3 _
  have o1 : OwnI w1 0 (.slice (some ⟨w.heap.size, 0, none⟩) 4 4) [1, 2, 3, 4] := h1 ▸ lit_own (w := w) [1, 2, 3, 4] (Nat.zero_le _) (by decide)
  have o2 : OwnI w2 0 (.slice (some ⟨w.heap.size + 1, 0, none⟩) 2 2) [2, 2] := s1 ▸ h2 ▸ lit_own (w := w1) [2, 2] (Nat.zero_le _) (by decide)
  have o3 : OwnI w3 0 (.slice (some ⟨w.heap.size + 1 + 1, 0, none⟩) 1 1) [2] := s2 ▸ h3 ▸ lit_own (w := w2) [2] (Nat.zero_le _) (by decide)
  have o4 : w4.ownsRow 0 22 1 (.slice (some ⟨w.heap.size + 1 + 1 + 1, 0, none⟩) 2 2) 2 [.slice (some ⟨w.heap.size + 1, 0, none⟩) 2 2, .slice (some ⟨w.heap.size + 1 + 1, 0, none⟩) 1 1] :=
    s3 ▸ own_blk (xs := [.slice (some ⟨w.heap.size + 1, 0, none⟩) 2 2, .slice (some ⟨w.heap.size + 1 + 1, 0, none⟩) 1 1]) (h4 ▸ heap_alloc_new w3 _) (Nat.zero_le _) (show 2 ≤ maxLen by decide)
  refine ⟨Aft.trans a1 (Aft.trans a2 (Aft.trans a3 a4)), o1.rd.grow (Aft.trans a2 (Aft.trans a3 a4)), ⟨_, Rd.of_own o4, rfl, fun i u hu => ?_⟩⟩
  match i, hu with
  | 0, hu =>
    cases hu
    exact o2.rd.grow (Aft.trans a3 a4)
  | 1, hu =>
    cases hu
    exact o3.rd.grow a4
end Go.Proofs.Ytfgammcefaomeaa
/- Whatever the order in which members came: the plain law. -/
namespace Go.Proofs.Ytfgammcefaomeaa
theorem insE_iff {ids : List Int} {ls : List (List Int)} {id : Int} (hok : OkT ids ls) (hl : ids.length < 1000) : insE ids ls id = 0 ↔ 0 ≤ id ∧ id ≤ 1048576 ∧ id ∉ ids := by
  constructor
  · intro h
    obtain ⟨-, h1, h2, h3, -⟩ := insE_zero h
    exact ⟨h1, h2, h3⟩
  · rintro ⟨h1, h2, h3⟩
    unfold insE
    rw [if_neg (by
      rintro (q | q | q)
      · exact q hok
      · omega
      · omega), if_neg h3, if_neg (by omega)]
/-- What Build makes. -/
theorem bld_spec : ∀ (xs ids : List Int) (ls : List (List Int)), OkT ids ls → ids.length + xs.length ≤ 1000 →
    ((bld xs ids ls).1 = 0 ↔ (∀ z ∈ xs, 0 ≤ z ∧ z ≤ 1048576 ∧ z ∉ ids) ∧ xs.Nodup) ∧
    ((bld xs ids ls).1 = 0 → OkT (bld xs ids ls).2.1 (bld xs ids ls).2.2 ∧ (∀ z, z ∈ (bld xs ids ls).2.1 ↔ z ∈ ids ∨ z ∈ xs) ∧ (bld xs ids ls).2.1.length = ids.length + xs.length)
  | [], ids, ls, hok, hl => ⟨by simp [bld], fun _ => ⟨hok, fun z => by simp [bld], by simp [bld]⟩⟩
  | id :: xs, ids, ls, hok, hl => by
    rw [List.length_cons] at hl
    have hiff := insE_iff (id := id) hok (by omega)
    by_cases h : insE ids ls id = 0
    · obtain ⟨k1, k2⟩ := ins_ok h
      have hlen : (insIds ids ls id).length = ids.length + 1 := by rw [k2, insI_length]
      obtain ⟨i1, i2⟩ := bld_spec xs _ _ k1 (by omega)
      have hm : ∀ z, z ∈ insIds ids ls id ↔ z = id ∨ z ∈ ids := fun z => by rw [k2]; exact insI_mem
      obtain ⟨h1, h2, h3⟩ := hiff.1 h
      rw [bld_good h]
      refine ⟨i1.trans ⟨fun ⟨p, q⟩ => ⟨fun z hz => ?_, ?_⟩, fun ⟨p, q⟩ => ⟨fun z hz => ?_, ?_⟩⟩, fun h0 => ?_⟩
      · rcases List.mem_cons.1 hz with rfl | hz
        · exact ⟨h1, h2, h3⟩
        · obtain ⟨p1, p2, p3⟩ := p z hz
          exact ⟨p1, p2, fun hh => p3 ((hm z).2 (.inr hh))⟩
      · refine List.nodup_cons.2 ⟨fun hz => ?_, q⟩
        exact (p id hz).2.2 ((hm id).2 (.inl rfl))
      · obtain ⟨p1, p2, p3⟩ := p z (List.mem_cons_of_mem _ hz)
        refine ⟨p1, p2, fun hh => ?_⟩
        rcases (hm z).1 hh with rfl | hh
        · exact (List.nodup_cons.1 q).1 hz
        · exact p3 hh
      · exact (List.nodup_cons.1 q).2
      · obtain ⟨j1, j2, j3⟩ := i2 h0
        refine ⟨j1, fun z => (j2 z).trans ?_, by rw [j3, hlen, List.length_cons]; omega⟩
        rw [hm, List.mem_cons]
        constructor
        · rintro ((q | q) | q)
          · exact .inr (.inl q)
          · exact .inl q
          · exact .inr (.inr q)
        · rintro (q | q | q)
          · exact .inl (.inr q)
          · exact .inl (.inl q)
          · exact .inr q
    · rw [bld_bad h]
      refine ⟨⟨fun q => absurd q h, fun ⟨p, _⟩ => absurd (hiff.2 (p id (List.mem_cons_self ..))) h⟩, fun q => absurd q h⟩
/-- Another order. -/
theorem bld_perm {xs ys : List Int} (hp : xs.Perm ys) (hl : xs.length ≤ 1000) : ((bld xs [] []).1 = 0 ↔ (bld ys [] []).1 = 0) ∧ ((bld xs [] []).1 = 0 → (bld xs [] []).2.1 = (bld ys [] []).2.1) := by
  obtain ⟨a1, a2⟩ := bld_spec xs [] [] ok_empty (by simpa using hl)
  obtain ⟨b1, b2⟩ := bld_spec ys [] [] ok_empty (by have := hp.length_eq; simp; omega)
  have hiff : ((bld xs [] []).1 = 0 ↔ (bld ys [] []).1 = 0) := by
    rw [a1, b1, hp.nodup_iff]
    exact and_congr_left fun _ => ⟨fun h z hz => h z (hp.mem_iff.2 hz), fun h z hz => h z (hp.mem_iff.1 hz)⟩
  refine ⟨hiff, fun h0 => ?_⟩
  obtain ⟨o1, m1, -⟩ := a2 h0
  obtain ⟨o2, m2, -⟩ := b2 (hiff.1 h0)
  exact rise_eq o1.1.2.2 o2.1.2.2 fun z => by rw [m1, m2, hp.mem_iff]
/-- Two places changed. -/
def swp (l : List Int) (a b : Nat) : List Int := (l.set a (l.getD b 0)).set b (l.getD a 0)
theorem swp_length (l : List Int) (a b : Nat) : (swp l a b).length = l.length := by simp [swp]
theorem swp_perm (l : List Int) (a b : Nat) (ha : a < l.length) (hb : b < l.length) : (swp l a b).Perm l := by
  have h := Array.swap_perm (xs := l.toArray) (i := a) (j := b) (by simpa using ha) (by simpa using hb)
  have h2 := Array.perm_iff_toList_perm.1 h
  have h3 : (l.toArray.swap a b (by simpa using ha) (by simpa using hb)).toList = swp l a b := by
    simp [Array.swap, swp, List.getD_eq_getElem?_getD, List.getElem?_eq_getElem ha, List.getElem?_eq_getElem hb]
  rw [h3] at h2
  exact h2
end Go.Proofs.Ytfgammcefaomeaa
/- Few of the document of law 10. -/
namespace Go.Proofs.Ytfgammcefaomeaa
open Go Go.RowKit
set_option linter.unusedSimpArgs false
def fewT (ids : List Int) (ls : List (List Int)) : Bool := decide ((∀ l ∈ ls, l.length ≤ 1100) ∧ ids.length ≤ 1100 ∧ ls.length ≤ 20)
theorem fewT_small {ids : List Int} {ls : List (List Int)} (h : fewT ids ls = true) : Small ids ls := by
  obtain ⟨h1, h2, h3⟩ := of_decide_eq_true h
  exact ⟨by omega, by omega, fun l hl => by have := h1 l hl; omega⟩
set_option maxRecDepth 100000 in
set_option maxHeartbeats 4000000 in
theorem tfew_any (vi vl : Value) (ids : List Int) (ls : List (List Int)) (w : World) (hi : Rd w vi (zv ids)) (hl : RdLs w vl ls) :
    Calls Try.prog 32 #[.agg (shpL vi vl).toArray] w fun e w' => e = .returned (.bool (fewT ids ls)) ∧ Aft w w' := by
  have HI := Lib.hid hi
  have HLs := Lib.hid hl
  obtain ⟨ao, cap, rfl, hc1, hc2⟩ := hi.numS
  obtain ⟨bo, dap, rfl, hd1⟩ := hl.shape
  obtain ⟨bq, hbq⟩ : ∃ bq, bq = fewT ids ls := ⟨_, rfl⟩
  have HB := Lib.hid hbq
  rw [← hbq]
  have HL := Lib.hid (Led.start w)
  clear hi hl hbq
  go_enter Try.func32, Try.ntmps32
  go_wp2_with (first | (refine wpList_boxO rfl 25 (.tmp 0) rfl (.agg (shpL (.slice ao ids.length cap) (.slice bo ls.length dap)).toArray) rfl (.cells (shpL (.slice ao ids.length cap) (.slice bo ls.length dap)).toArray 25) (box_shp _) ?_; intro w' aa gg zz; replace HL := Lib.hid (HL.out.alloc aa gg.out); clear aa gg zz; try simp only [List.nil_append, List.cons_append, List.set_cons_zero, List.set_cons_succ] at HL; have hA := shp_l (HL.out.get 0 rfl)))
  clear hA
  go_loopw [8] (fun v8 wr => ∃ i : Nat, i ≤ ls.length ∧ v8 = .int .i64 (i : Int) ∧ (∀ l ∈ ls.take i, l.length ≤ 1100) ∧ Led w wr [(w.heap.size, .cells (shpL (.slice ao ids.length cap) (.slice bo ls.length dap)).toArray 25)]) (fun v _ => ls.length - (intOf v).toNat)
  case atStart => exact ⟨0, by omega, rfl, fun l hl => by simp at hl, HL.out⟩
  case round =>
    clear HL
    obtain ⟨i, hi, rfl, hf, hL⟩ := hrel
    have HL := Lib.hid hL
    have HF := Lib.hid hf
    clear hL hf
    by_cases hlt : i < ls.length
    · have hlt' : (i : Int) < (ls.length : Nat) := by omega
      obtain ⟨b1, o1, c1, x, he, hcx, hrx⟩ := HLs.out.cell hlt
      injection he with he1 he2 he3
      subst he1 he3
      have hc := hcx _ HL.out.aft
      have HT := Lib.hid (show ls.take (i + 1) = ls.take i ++ [ls.getD i []] by
        rw [List.take_add_one, List.getD_eq_getElem?_getD, List.getElem?_eq_getElem hlt]
        rfl)
      have HM := Lib.hid (getD_mem hlt)
      obtain ⟨a1, c1, rfl, -, hq⟩ := hrx.numS
      generalize ls.getD i [] = l at *
      clear hcx hrx he2
      by_cases hb : (1100 : Int) < (l.length : Nat)
      · have HN := Lib.hid (show bq = false by
          rw [HB.out]
          exact decide_eq_false fun q => by have := q.1 l HM.out; omega)
        go_wp2_with fail
        go_ret
        exact ⟨by rw [HN.out]; rfl, HL.out.aft⟩
      · go_wp2_with fail
        go_roundw
        case rel =>
          refine ⟨i + 1, by omega, by go_num, fun y hy => ?_, HL.out⟩
          rw [HT.out] at hy
          rcases List.mem_append.1 hy with hy | hy
          · exact HF.out y hy
          · rw [List.mem_singleton.1 hy]
            omega
        case measure => simp [intOf]; omega
    · obtain rfl : i = ls.length := by omega
      have hlt' : ¬ ((ls.length : Nat) : Int) < (ls.length : Nat) := by omega
      rw [List.take_length] at HF
      have hA := shp_l (HL.out.get 0 rfl)
      have hB := shp_i (HL.out.get 0 rfl)
      have HN := Lib.hid (show bq = (decide ((ids.length : Int) ≤ 1100) && decide ((ls.length : Int) ≤ 20)) by
        rw [HB.out]
        unfold fewT
        rw [← Bool.decide_and]
        exact decide_eq_decide.2 ⟨fun q => ⟨by omega, by omega⟩, fun q => ⟨HF.out, by omega, by omega⟩⟩)
      obtain ⟨bz, hbz⟩ : ∃ bz, bz = (decide ((ids.length : Int) ≤ 1100) && decide ((ls.length : Int) ≤ 20)) := ⟨_, rfl⟩
      have HZ := Lib.hid (HN.out.trans hbz.symm)
      by_cases g1 : (ids.length : Int) ≤ 1100
      · by_cases g2 : (ls.length : Int) ≤ 20
        · have HZ2 := Lib.hid (show bq = true by rw [HN.out]; simp [g1, g2])
          clear hbz
          go_wp2_with fail
          go_ret
          exact ⟨by rw [HZ2.out]; rfl, HL.out.aft⟩
        · have HZ2 := Lib.hid (show bq = false by rw [HN.out]; simp [g2])
          clear hbz
          go_wp2_with fail
          go_ret
          exact ⟨by rw [HZ2.out]; rfl, HL.out.aft⟩
      · have HZ2 := Lib.hid (show bq = false by rw [HN.out]; simp [g1])
        clear hbz
        go_wp2_with fail
        go_ret
        exact ⟨by rw [HZ2.out]; rfl, HL.out.aft⟩
end Go.Proofs.Ytfgammcefaomeaa
/- near of law 10. -/
namespace Go.Proofs.Ytfgammcefaomeaa
open Go Go.RowKit
set_option linter.unusedSimpArgs false
theorem wpList_dstT {P : Program} {ops : Array Oper} {rest : List Oper} {o : Oper} {a : Act} {w : World} {Q : Exit → Act → World → Prop} (n : Nat) (_ : o.dst = some n) (k : wpList P ops Q (o :: rest) a w) : wpList P ops Q (o :: rest) a w := k
end Go.Proofs.Ytfgammcefaomeaa
/- Lists of numbers made and grown. -/
namespace Go.Proofs.Ytfgammcefaomeaa
open Go Go.RowKit
set_option linter.unusedSimpArgs false
theorem made_zeros (n : Nat) : madeCells (Value.int .i64 0).cells (n * 1) = (zv (List.replicate n 0)).toArray := by
  apply Array.ext'
  apply List.ext_getElem?
  intro k
  simp only [madeCells, Nat.mul_one, Value.cells, zv]
  by_cases hk : k < n
  · simp [hk, Nat.mod_one]
  · simp [hk]
theorem wpList_makeInts {ops : Array Oper} {rest : List Oper} {o : Oper} {a : Act} {w : World} {Q : Exit → Act → World → Prop} (hw : Region.wanted o (yielded ops a.tmps) = true) (x y : Operand) (ho : o.op = .makeSlice 22 x y) (n : Nat) (z : Int) (hz : z = (n : Int)) (hx : a.eval x = .int .i64 z) (hy : a.eval y = .int .i64 z) (hn : n ≤ 16777216)
    (h : ∀ w', Aft w w' → Hid (OwnI w' w.heap.size (.slice (some ⟨w.heap.size, 0, none⟩) n n) (List.replicate n 0)) → wpList Try.prog ops Q rest (a.put o.dst (.slice (some ⟨w.heap.size, 0, none⟩) n n)) w') : wpList Try.prog ops Q (o :: rest) a w := by
  subst hz
  obtain ⟨i0, hi0, hz1, hz2, hz3⟩ := info_parts info_int
  have hr := run_make (P := Try.prog) w 22 3 i0 (.int .i64 0) Try.underlying22 hi0 hz1 .i64 .i64 (n : Int) (n : Int) (by omega) (by omega) (by rw [hz3]; omega) (by omega)
  rw [hz2, Int.toNat_natCast, made_zeros] at hr
  unfold wpList
  rw [if_pos hw]
  refine .inl (wp_noOut ?_)
  unfold Oper.wp execOp
  simp only [ho, hx, hy, hr, Sem.run_bind, Result.andThen_ok, Sem.run_pure]
  refine h _ (Aft.alloc w _) (Lib.hid ?_)
  have := own_blk (base := w.heap.size) (heap_alloc_new w (.cells (zv (List.replicate n 0)).toArray 3 (0, 0))) (Nat.le_refl _) (by rw [zv_length, List.length_replicate]; unfold maxLen; omega)
  rw [zv_length, List.length_replicate] at this
  unfold OwnI
  rw [List.length_replicate]
  exact this
/-- One number more at the end. -/
theorem wpList_snocI {ops : Array Oper} {rest : List Oper} {o : Oper} {a : Act} {w : World} {Q : Exit → Act → World → Prop} (hgd : o.guard = none) (s x : Operand) (ho : o.op = .call { callee := .builtin .append, args := #[s, x], argTypes := #[22, 22] }) (base : Nat) (v : Value) (xs : List Int) (hs : a.eval s = v) (hown : OwnI w base v xs) (gx : Nat) (z : Int) (hx : a.eval x = .slice (some ⟨gx, 0, none⟩) 1 1)
    (hg : w.heap[gx]? = some (.cells #[.int .i64 z] 3 (0, 0))) (hl : xs.length ≤ 16777216) (hb : base ≤ w.heap.size)
    (h : ∀ g c w', Hid (OwnI w' base (.slice (some ⟨g, 0, none⟩) (xs.length + 1) c) (xs ++ [z])) → Hid (Fr (fun b => v.ownBlock = some b) w w') → Hid (v.ownBlock = some g ∨ w.heap.size ≤ g) → wpList Try.prog ops Q rest (a.put o.dst (.slice (some ⟨g, 0, none⟩) (xs.length + 1) c)) w') : wpList Try.prog ops Q (o :: rest) a w := by
  obtain ⟨i0, hi0, hz1, hz2, hz3⟩ := info_parts info_int
  refine wpList_append_lies w hgd s x 22 ho base 3 i0 (.int .i64 0) 1 8 Try.underlying22 hi0 hz1 hz2 hz3 rfl (by decide) v xs.length (zv xs) hs hown ⟨gx, 0, none⟩ 1 1 [.int .i64 z] hx rfl (fun j u hu => by
    rw [Addr.add_lit, Nat.zero_add]
    exact cell_part hg (by simpa using hu)) (fun u hu => by simp at hu; subst hu; rfl) (by decide) (by unfold maxLen; omega) (by omega) hb _ rfl ?_
  intro g c w' k1 k2 k3 k4
  refine h g c w' (Lib.hid ?_) (Lib.hid (Fr.of_grown k2 fun k hk => hk)) (Lib.hid ?_)
  · unfold OwnI
    rw [List.length_append, zv_append]
    exact k1
  · rcases k3 with h | h
    · exact .inl h
    · exact .inr (by omega)
theorem set_zero {done : List Int} {n k : Nat} (hd : done.length = k) (hk : k < n) (g : Int) : (done ++ List.replicate (n - k) 0).set k g = (done ++ [g]) ++ List.replicate (n - (k + 1)) 0 := by
  obtain ⟨m, hm⟩ : ∃ m, n - k = m + 1 := ⟨n - k - 1, by omega⟩
  rw [hm, show n - (k + 1) = m by omega, List.replicate_succ, List.set_append_right _ _ (by omega), hd, Nat.sub_self, List.set_cons_zero, List.append_assoc]
  rfl
theorem aft_fr {w0 w w' : World} {base : Nat} {v : Value} {xs : List Int} (ha : Aft w0 w) (ho : OwnI w base v xs) (hb : w0.heap.size ≤ base) (hf : Fr (fun b => v.ownBlock = some b) w w') : Aft w0 w' :=
  ⟨hf.os.trans ha.os, hf.tape.trans ha.tape, hf.output.trans ha.output, Nat.le_trans ha.size hf.size, fun k hk => (hf.block k (Nat.lt_of_lt_of_le hk ha.size) fun q => by
    have := (ho.lt q).1
    omega).trans (ha.block k hk)⟩
theorem one_own {w w' : World} {base : Nat} {z : Int} (hg : w'.heap[w.heap.size]? = some (.cells #[.int .i64 z] 3 (0, 0))) (hb : base ≤ w.heap.size) : OwnI w' base (.slice (some ⟨w.heap.size, 0, none⟩) 1 1) [z] :=
  own_blk (xs := zv [z]) hg hb (show 1 ≤ maxLen by decide)
end Go.Proofs.Ytfgammcefaomeaa
