/- tree.Delete. -/
import Derived.Test.YtfgammcefaomeaaB3
namespace Go.Proofs.Ytfgammcefaomeaa
open Go Go.RowKit
set_option linter.unusedSimpArgs false
theorem row_cellT {w : World} {base g n c : Nat} {t : TypeId} {vs : List Value} (h : w.ownsRow base t 1 (.slice (some ⟨g, 0, none⟩) n c) vs.length vs) {k : Nat} {u : Value} (hu : vs[k]? = some u) : w.cell? ⟨g, k, none⟩ = some u := by
  obtain ⟨a1, c1, he', -, -, -, h4⟩ := Rd.of_own h
  injection he' with q1 q2 q3
  have := h4 ⟨g, 0, none⟩ (by rw [← q1]) k _ hu
  rwa [Addr.add_lit, Nat.zero_add] at this
def DelSays (ids : List Int) (ls : List (List Int)) (id : Int) (w : World) (e : Ending) (w' : World) : Prop :=
  ∃ vi vl vs, e = .returned (.tuple #[.agg (shpL vi vl).toArray, .int .i64 (delE ids ls id)]) ∧ OwnTr w' w.heap.size vi vl vs (delIds ids ls id) (delLv ids ls id) ∧ Aft w w'
theorem DelSays.bad {ids : List Int} {ls : List (List Int)} {id : Int} {w w' : World} {c : Int} (h : delE ids ls id = c) (h0 : c ≠ 0) (ha : Aft w w') : DelSays ids ls id w (.returned (.tuple #[.agg (shpL (.slice none 0 0) (.slice none 0 0)).toArray, .int .i64 c])) w' := by
  subst h
  refine ⟨.slice none 0 0, .slice none 0 0, [], rfl, ?_, ha⟩
  unfold delIds delLv
  rw [if_neg h0, if_neg h0]
  exact OwnTr.nil _ _
theorem DelSays.good {ids ids' : List Int} {ls ls' : List (List Int)} {id : Int} {w w' : World} {vi vl : Value} {vs : List Value} (h : delE ids ls id = 0) (h1 : delIds ids ls id = ids') (h2 : delLv ids ls id = ls') (ho : OwnTr w' w.heap.size vi vl vs ids' ls') (ha : Aft w w') : DelSays ids ls id w (.returned (.tuple #[.agg (shpL vi vl).toArray, .int .i64 0])) w' :=
  ⟨vi, vl, vs, by rw [h], by rw [h1, h2]; exact ho, ha⟩
theorem delL_three {l : List Int} {ls : List (List Int)} {a : Int} (h : l.getD (grpG l a) 0 = 3) : delL (l :: ls) a = l.set (grpG l a) 2 :: ls := by
  unfold delL
  rw [h, if_pos (by decide)]
  rfl
theorem delL_last {l : List Int} {a : Int} (h : l.getD (grpG l a) 0 = 2) : delL [l] a = [] := by
  unfold delL
  rw [h, if_neg (by decide)]
theorem delL_lent {l above : List Int} {ls : List (List Int)} {a : Int} (h : l.getD (grpG l a) 0 = 2) (h2 : (l.set (grpG l a) 1).getD (othr above (grpG l a)) 0 = 3) : delL (l :: above :: ls) a = lendL (l.set (grpG l a) 1) above (grpG l a) :: above :: ls := by
  rw [delL, h, if_neg (by decide), show (2 : Int) - 1 = 1 from rfl]
  try simp only
  unfold lendL
  rw [if_pos h2, if_pos h2]
theorem lendL_length (l above : List Int) (g : Nat) : (lendL l above g).length = l.length := by
  unfold lendL
  split <;> simp
theorem delL_gone {l above : List Int} {ls : List (List Int)} {a : Int} (h : l.getD (grpG l a) 0 = 2) (h2 : ¬ (l.set (grpG l a) 1).getD (othr above (grpG l a)) 0 = 3) : delL (l :: above :: ls) a = (lendL (l.set (grpG l a) 1) above (grpG l a)).eraseIdx (gon above (grpG l a)) :: delL (above :: ls) (grpG l a : Nat) := by
  rw [delL, h, if_neg (by decide), show (2 : Int) - 1 = 1 from rfl]
  try simp only
  unfold lendL
  rw [if_neg h2, if_neg h2]
/-- Levels cut off. -/
theorem OwnTr.cutL {w : World} {base gL n c : Nat} {vi : Value} {vs : List Value} {ids : List Int} {ls : List (List Int)} (h : OwnTr w base vi (.slice (some ⟨gL, 0, none⟩) n c) vs ids ls) {k : Nat} (hk : k ≤ vs.length) : OwnTr w base vi (.slice (some ⟨gL, 0, none⟩) k c) (vs.take k) ids (ls.take k) := by
  have hget : ∀ (i : Nat) (u : Value), (vs.take k)[i]? = some u → i < k ∧ vs[i]? = some u := fun i u hu => by
    rw [List.getElem?_take] at hu
    split at hu
    · rename_i hlt; exact ⟨hlt, hu⟩
    · cases hu
  refine ⟨h.ids, ⟨?_, by rw [List.length_take, List.length_take, h.lv.len], fun i u hu => ?_, fun i j u u' g hij hu hu' => h.lv.dis i j u u' g hij (hget i u hu).2 (hget j u' hu').2⟩, fun i u g hu => h.dis i u g (hget i u hu).2⟩
  · rcases h.lv.row.2 with ⟨he, -⟩ | ⟨g, cap, cur, he, hb, hg, h1, h2, h3, h4⟩
    · cases he
    · cases he
      have hl : (vs.take k).length = k := by rw [List.length_take]; omega
      rw [hl]
      refine ⟨by rw [hl, Nat.mul_one], .inr ⟨_, _, cur, rfl, hb, hg, by omega, h2, h3, ?_⟩⟩
      rw [Nat.mul_one] at h4 ⊢
      rw [← h4, List.take_take, Nat.min_eq_left hk]
  · obtain ⟨h1, h2⟩ := hget i u hu
    rw [List.getD_eq_getElem?_getD, List.getElem?_take_of_lt h1, ← List.getD_eq_getElem?_getD]
    exact h.lv.own i u h2
set_option maxRecDepth 100000 in
set_option maxHeartbeats 8000000 in
theorem tdelete_any (vi vl : Value) (ids : List Int) (ls : List (List Int)) (id : Int) (w : World) (hi : Rd w vi (zv ids)) (hl : RdLs w vl ls) (hs : Small ids ls) :
    Calls Try.prog 41 #[.agg (shpL vi vl).toArray, .int .i64 id] w (DelSays ids ls id w) := by
  have HCk := Lib.hid (fun (wx : World) (ha : Aft w wx) => tcheck_any vi vl ids ls wx (hi.grow ha) (hl.aft ha) hs)
  have HFd := Lib.hid (fun (wx : World) (ha : Aft w wx) => find_any vi vl ids id wx (hi.grow ha) hs.fi)
  have HOw := Lib.hid (fun (wx : World) (ha : Aft w wx) => own_any vi vl ids ls wx (hi.grow ha) (hl.aft ha) hs)
  have HS := Lib.hid hs
  obtain ⟨ao, cap, rfl, -, -⟩ := hi.numS
  obtain ⟨bo, dap, rfl, -⟩ := hl.shape
  have HL := Lib.hid (Led.start w)
  clear hi hl hs
  go_enter Try.func41, Try.ntmps41
  go_wp2_with (first | (refine wpList_boxO rfl 25 (.tmp 0) rfl (.agg (shpL (.slice ao ids.length cap) (.slice bo ls.length dap)).toArray) rfl (.cells (shpL (.slice ao ids.length cap) (.slice bo ls.length dap)).toArray 25) (box_shp _) ?_; intro wB aa gg zz; replace HL := Lib.hid (HL.out.alloc aa gg.out); clear aa gg zz; try simp only [List.nil_append, List.cons_append, List.set_cons_zero, List.set_cons_succ] at HL) | (refine wpList_allocO rfl 25 rfl (.cells (shpL (.slice none 0 0) (.slice none 0 0)).toArray 25) alloc_shp ?_; intro w' aa gg zz; replace HL := Lib.hid (HL.out.alloc aa gg.out); clear aa gg zz; try simp only [List.nil_append, List.cons_append, List.set_cons_zero, List.set_cons_succ] at HL) | (refine wpList_load_rowG (by kernel_rfl) 25 (.tmp 2) rfl _ rfl _ _ _ _ (HL.out.get 0 rfl) Try.underlying25 rfl (shp_info _ _) ?_))
  refine (HCk.out _ HL.out.aft).mono ?_
  rintro e w2 ⟨rfl, h2⟩
  replace HL := Lib.hid (HL.out.call h2)
  clear h2 HCk
  by_cases hok : OkT ids ls
  rotate_left
  · have HE := Lib.hid (show delE ids ls id = 1 from if_pos hok)
    rw [chk_bad hok]
    go_wp2_with (first | (refine wpList_buildO (by kernel_rfl) 25 #[] rfl #[] (by kernel_rfl) _ (build_shp0) ?_) | (refine wpList_store_shp rfl (.tmp 4) (.tmp 21) _ _ _ (.slice none 0 0) (.slice none 0 0) rfl rfl rfl rfl rfl (HL.out.get 1 rfl) ?_; intro w9 b1 b2 b3; replace HL := Lib.hid (HL.out.store 1 rfl b1 b2 b3); clear b1 b2 b3; try simp only [List.nil_append, List.cons_append, List.set_cons_zero, List.set_cons_succ] at HL))
    refine bodyPost_ret (results_cell_tmp rfl _ _ _ 25 _ (0, 0) _ rfl (HL.out.get 1 rfl) Try.underlying25 rfl (shp_info _ _)) rfl ?_
    exact DelSays.bad HE.out (by decide) HL.out.aft
  rw [chkT_zero.2 hok]
  have HId := Lib.hid (show delE ids ls id = if id ∈ ids then 0 else 6 from if_neg fun q => q hok)
  have HOk := Lib.hid hok
  clear hok
  go_wp2_with (first | (refine wpList_load_rowG (by kernel_rfl) 25 (.tmp 2) rfl _ rfl _ _ _ _ (HL.out.get 0 rfl) Try.underlying25 rfl (shp_info _ _) ?_))
  refine (HFd.out _ HL.out.aft).mono ?_
  rintro e w3 ⟨rfl, h3⟩
  replace HL := Lib.hid (HL.out.call h3)
  clear h3 HFd
  by_cases hin : id ∈ ids
  rotate_left
  · have HE := Lib.hid (show delE ids ls id = 6 by rw [HId.out, if_neg hin])
    rw [decide_eq_false hin]
    clear hin
    go_wp2_with (first | (refine wpList_buildO (by kernel_rfl) 25 #[] rfl #[] (by kernel_rfl) _ (build_shp0) ?_) | (refine wpList_store_shp rfl (.tmp 4) (.tmp 31) _ _ _ (.slice none 0 0) (.slice none 0 0) rfl rfl rfl rfl rfl (HL.out.get 1 rfl) ?_; intro w9 b1 b2 b3; replace HL := Lib.hid (HL.out.store 1 rfl b1 b2 b3); clear b1 b2 b3; try simp only [List.nil_append, List.cons_append, List.set_cons_zero, List.set_cons_succ] at HL))
    refine bodyPost_ret (results_cell_tmp rfl _ _ _ 25 _ (0, 0) _ rfl (HL.out.get 1 rfl) Try.underlying25 rfl (shp_info _ _)) rfl ?_
    exact DelSays.bad HE.out (by decide) HL.out.aft
  rw [decide_eq_true hin]
  have HE := Lib.hid (show delE ids ls id = 0 by rw [HId.out, if_pos hin])
  have HCn := Lib.hid (cnt_lt HOk.out.1.2.2 hin)
  clear hin HId
  go_wp2_with (first | (refine wpList_load_rowG (by kernel_rfl) 25 (.tmp 2) rfl _ rfl _ _ _ _ (HL.out.get 0 rfl) Try.underlying25 rfl (shp_info _ _) ?_))
  refine (HOw.out _ HL.out.aft).mono ?_
  rintro e w4 ⟨vi', vl', vs, rfl, ho, h4⟩
  have HT := Lib.hid (ho.mono HL.out.aft.size)
  obtain ⟨a1, c1, b1, d1, rfl, rfl⟩ := ho.shape
  replace HL := Lib.hid (HL.out.call h4)
  clear h4 ho HOw
  have hci : cnt ids id ≤ 1048576 := Nat.le_trans (Nat.le_of_lt HCn.out) HS.out.fi
  go_wp2_with (first | (refine wpList_store_shp rfl (.tmp 2) (.tmp 33) _ _ _ (.slice a1 ids.length c1) (.slice b1 ls.length d1) rfl rfl rfl rfl rfl (HL.out.get 0 rfl) ?_; intro w5 b1 b2 b3; replace HT := Lib.hid (HT.out.stored (HL.out.get 0 rfl) (by decide) (by decide) b2.out); replace HL := Lib.hid (HL.out.store 0 rfl b1 b2 b3); clear b1 b2 b3; try simp only [List.nil_append, List.cons_append, List.set_cons_zero, List.set_cons_succ] at HL; have hi0 := shp_i (HL.out.get 0 rfl)))
  clear hi0
  refine (cutI_any _ ids (cnt ids id) w.heap.size _ HT.out.ids HCn.out).mono ?_
  rintro e w7 ⟨vi2, rfl, hob, ho, hf⟩
  have HT2 := Lib.hid (HT.out.turnI hf ho (fun g hg => .inl (by rw [← hob]; exact hg)))
  have HL2 := Lib.hid (HL.out.frO (show w5.ownsRow w.heap.size 3 1 (.slice a1 ids.length c1) ids.length (zv ids) from HT.out.ids) (Nat.le_refl _) hf rfl)
  clear ho hf hob HT HL
  have HT := HT2
  have HL := HL2
  clear HT2 HL2
  obtain ⟨a2, c2, hv2⟩ := HT.out.ids.shape
  subst hv2
  have hlen : (ids.eraseIdx (cnt ids id)).length = ids.length - 1 := List.length_eraseIdx_of_lt HCn.out
  replace HT := Lib.hid (show OwnTr w7 w.heap.size (.slice a2 (ids.length - 1) c2) (.slice b1 ls.length d1) vs (ids.eraseIdx (cnt ids id)) ls from hlen ▸ HT.out)
  rw [hlen]
  clear hlen
  have HI := Lib.hid (show delIds ids ls id = ids.eraseIdx (cnt ids id) from if_pos HE.out)
  have HV := Lib.hid (show delLv ids ls id = delL ls (cnt ids id : Nat) from if_pos HE.out)
  generalize ids.eraseIdx (cnt ids id) = ids' at *
  have hfl := HS.out.fl
  go_wp2_with (first | (refine wpList_store_shpI rfl (.tmp 40) (.tmp 39) _ _ _ (.slice a2 (ids.length - 1) c2) rfl rfl rfl rfl rfl (HL.out.get 0 rfl) ?_; intro w8 b1 b2 b3; replace HT := Lib.hid (HT.out.stored (HL.out.get 0 rfl) (by decide) (by decide) b2.out); replace HL := Lib.hid (HL.out.store 0 rfl b1 b2 b3); clear b1 b2 b3; try simp only [List.nil_append, List.cons_append, List.set_cons_zero, List.set_cons_succ] at HL; have hl0 := shp_l (HL.out.get 0 rfl)))
  clear hl0 hci
  go_loopw [7, 44] (fun v7 v44 wr => ∃ (k a n : Nat) (us : List Value) (done : List (List Int)), k ≤ ls.length ∧ v44 = .int .i64 (k : Int) ∧ v7 = .int .i64 (a : Int) ∧ done.length = k ∧ delL ls (cnt ids id : Nat) = done ++ delL (ls.drop k) (a : Nat) ∧ okLv (n : Nat) (ls.drop k) = true ∧ a < n ∧ a ≤ 1048576 ∧ OwnTr wr w.heap.size (.slice a2 (ids.length - 1) c2) (.slice b1 ls.length d1) us ids' (done ++ ls.drop k) ∧ Led w wr [(w.heap.size, .cells (shpL (.slice a2 (ids.length - 1) c2) (.slice b1 ls.length d1)).toArray 25), (wB.heap.size, .cells (shpL (.slice none 0 0) (.slice none 0 0)).toArray 25)]) (fun _ v _ => ls.length - (intOf v).toNat)
  case atStart => exact ⟨0, cnt ids id, ids.length, vs, [], by omega, rfl, rfl, rfl, rfl, HOk.out.2, HCn.out, Nat.le_trans (Nat.le_of_lt HCn.out) HS.out.fi, HT.out, HL.out⟩
  case round =>
    clear HL HT
    obtain ⟨k, a, n, us, done, hk, rfl, rfl, hdl, hins, hok, han, ha6, hT, hL⟩ := hrel
    have HL := Lib.hid hL
    have HT := Lib.hid hT
    have HDl := Lib.hid hdl
    have HIn := Lib.hid hins
    have HOl := Lib.hid hok
    clear hL hT hdl hins hok
    by_cases hlt : k < ls.length
    · have hlt' : (k : Int) < (ls.length : Nat) := by omega
      have hd := drop_cons ls k hlt
      have hfv := HS.out.fv _ (getD_mem hlt)
      rw [hd] at HIn HOl HT
      generalize ls.getD k [] = l at *
      generalize hrq : ls.drop (k + 1) = rest at *
      have HRq := Lib.hid hrq
      have HRl := Lib.hid (show rest.length = ls.length - (k + 1) by rw [← hrq, List.length_drop])
      clear hrq
      clear hd
      obtain ⟨h2n, hl23, hsum, hokr⟩ := okLv_cons HOl.out
      clear HOl
      have HOr := Lib.hid hokr
      have H23 := Lib.hid hl23
      have hln := HT.out.lv.len
      rw [List.length_append, List.length_cons, HDl.out, HRl.out] at hln
      have hkl : k < us.length := by omega
      have HUl := Lib.hid (show us.length = ls.length by omega)
      obtain ⟨u, hu⟩ : ∃ u, us[k]? = some u := ⟨_, List.getElem?_eq_getElem hkl⟩
      have hgd : (done ++ l :: rest).getD k [] = l := by
        rw [List.getD_eq_getElem?_getD, List.getElem?_append_right (by rw [HDl.out]; exact Nat.le_refl _), HDl.out, Nat.sub_self]
        rfl
      have hou : OwnI wr w.heap.size u l := by
        have := HT.out.lv.own k u hu
        rwa [hgd] at this
      have hlp : 0 < l.length := by
        rcases l with _ | ⟨x, l⟩
        · simp at hsum
          omega
        · exact Nat.succ_pos _
      obtain ⟨gu, cu, curu, rfl, hgu, hcu⟩ := own_row_blk hou hlp
      have hrow := HT.out.lv.row
      obtain ⟨gL, cL, cur, he, hgb, hgL⟩ := own_row_blk hrow (by omega)
      injection he with he1 he2 he3
      subst he1 he3
      have hgr := group_any (.slice (some ⟨gu, 0, none⟩) l.length cu) l (a : Nat) wr hou.rd hl23 hfv (by omega) (by omega)
      have HGs := Lib.hid (grp_spec l (a : Nat) (by omega) (by omega))
      have hc0 : wr.cell? ⟨gL, k, none⟩ = some (.slice (some ⟨gu, 0, none⟩) l.length cu) := row_cellT hrow hu
      have HOu := Lib.hid hou
      have HSet := Lib.hid (fun (l0 l' : List Int) => show (done ++ l0 :: rest).set k l' = done ++ l' :: rest by
        rw [List.set_append_right _ _ (by rw [HDl.out]; exact Nat.le_refl _), HDl.out, Nat.sub_self]
        rfl)
      have HU := Lib.hid hu
      have HHr := Lib.hid hgr
      have HD3 := Lib.hid (fun q => delL_three (ls := rest) (l := l) (a := (a : Nat)) q)
      have HD2 := Lib.hid (fun q => delL_last (l := l) (a := (a : Nat)) q)
      have HDq := Lib.hid (fun above rs q q2 => delL_lent (ls := rs) (l := l) (above := above) (a := (a : Nat)) q q2)
      have HDg := Lib.hid (fun above rs q q2 => delL_gone (ls := rs) (l := l) (above := above) (a := (a : Nat)) q q2)
      generalize grpG l (a : Nat) = g at *
      have hgl := HGs.out.1
      have hc1 : wr.cell? ⟨gu, g, none⟩ = some (.int .i64 (l.getD g 0)) := by
        have := Rd.num_at HOu.out.rd hgl
        rwa [Nat.zero_add] at this
      have hx := getD_of H23.out hgl
      clear hou hu hgd hgr hl23 hsum hokr hgu hcu hrow hgb hgL he2 hln hlp HGs
      go_wp2_with fail
      refine HHr.out.mono ?_
      rintro e wg ⟨rfl, rfl⟩
      by_cases h3 : l.getD g 0 = 3
      · rw [h3] at hc1
        have HV2 := Lib.hid (show delLv ids ls id = done ++ l.set g 2 :: rest by rw [HV.out, HIn.out, HD3.out h3])
        clear h3 hx HV HIn HD3 HD2 HDq HDg
        go_wp2_with (first | (refine wpList_store_num rfl (.tmp 60) (.tmp 59) rfl w.heap.size gu l.length cu l g hgl 2 HOu.out rfl rfl ?_; intro wS q1 q2; clear hc0 hc1; have hc2 := num_set q1 hgl; replace HT := Lib.hid (HSet.out _ _ ▸ HT.out.cell HU.out q2 q1); replace HL := Lib.hid (HL.out.frO HOu.out (Nat.le_refl _) q2 rfl); clear q1 q2) | (refine wpList_load_rowG (by kernel_rfl) 25 (.tmp 2) rfl _ rfl _ _ _ _ (HL.out.get 0 rfl) Try.underlying25 rfl (shp_info _ _) ?_) | (refine wpList_store_shp rfl (.tmp 4) (.tmp 66) _ _ _ (.slice a2 (ids.length - 1) c2) (.slice (some ⟨gL, 0, none⟩) ls.length d1) rfl rfl rfl rfl rfl (HL.out.get 1 rfl) ?_; intro w9 b1 b2 b3; replace HT := Lib.hid (HT.out.stored (HL.out.get 1 rfl) (by decide) (by decide) b2.out); replace HL := Lib.hid (HL.out.store 1 rfl b1 b2 b3); clear b1 b2 b3; try simp only [List.nil_append, List.cons_append, List.set_cons_zero, List.set_cons_succ] at HL))
        refine bodyPost_ret (results_cell_tmp rfl _ _ _ 25 _ (0, 0) _ rfl (HL.out.get 1 rfl) Try.underlying25 rfl (shp_info _ _)) rfl ?_
        exact DelSays.good HE.out HI.out HV2.out HT.out HL.out.aft
      · have h2 : l.getD g 0 = 2 := hx.resolve_right h3
        rw [h2] at hc1
        clear h3 hx HD3
        have HX2 := Lib.hid h2
        clear h2
        by_cases hlast : k + 1 = ls.length
        · have hlast' : (k : Int) + 1 = (ls.length : Nat) := by omega
          have hrn : rest = [] := List.eq_nil_of_length_eq_zero (by have := HRl.out; omega)
          subst hrn
          have HV2 := Lib.hid (show delLv ids ls id = done by rw [HV.out, HIn.out, HD2.out HX2.out, List.append_nil])
          have HTk := Lib.hid (show (done ++ [l.set g 1]).take k = done by rw [← HDl.out, List.take_left])
          clear hlast HV HIn HD2 HDq HDg
          have hcd : (k : Int) ≤ (d1 : Nat) := by
            have := HT.out.lv.row.2
            rcases this with ⟨he, -⟩ | ⟨g0, cap0, cur0, he, -, -, h1, -⟩
            · cases he
            · injection he with e1 e2 e3
              omega
          have hku := HUl.out
          go_wp2_with (first | (refine wpList_store_num rfl (.tmp 60) (.tmp 59) rfl w.heap.size gu l.length cu l g hgl 1 HOu.out rfl rfl ?_; intro wS q1 q2; clear hc0 hc1; have hc2 := num_set q1 hgl; replace HT := Lib.hid (HSet.out _ _ ▸ HT.out.cell HU.out q2 q1); replace HL := Lib.hid (HL.out.frO HOu.out (Nat.le_refl _) q2 rfl); replace HOu := Lib.hid q1; have hl0 := shp_l (HL.out.get 0 rfl); clear q1 q2) | (refine wpList_store_shpV rfl (.tmp 77) (.tmp 76) _ _ _ (.slice (some ⟨gL, 0, none⟩) k d1) rfl rfl rfl rfl rfl (HL.out.get 0 rfl) ?_; intro wV b1 b2 b3; clear hl0; replace HT := Lib.hid (HTk.out ▸ (HT.out.stored (HL.out.get 0 rfl) (by decide) (by decide) b2.out).cutL (k := k) (by omega)); replace HL := Lib.hid (HL.out.store 0 rfl b1 b2 b3); clear b1 b2 b3; try simp only [List.nil_append, List.cons_append, List.set_cons_zero, List.set_cons_succ] at HL) | (refine wpList_load_rowG (by kernel_rfl) 25 (.tmp 2) rfl _ rfl _ _ _ _ (HL.out.get 0 rfl) Try.underlying25 rfl (shp_info _ _) ?_) | (refine wpList_store_shp rfl (.tmp 4) (.tmp 78) _ _ _ (.slice a2 (ids.length - 1) c2) (.slice (some ⟨gL, 0, none⟩) k d1) rfl rfl rfl rfl rfl (HL.out.get 1 rfl) ?_; intro w9 b1 b2 b3; replace HT := Lib.hid (HT.out.stored (HL.out.get 1 rfl) (by decide) (by decide) b2.out); replace HL := Lib.hid (HL.out.store 1 rfl b1 b2 b3); clear b1 b2 b3; try simp only [List.nil_append, List.cons_append, List.set_cons_zero, List.set_cons_succ] at HL))
          refine bodyPost_ret (results_cell_tmp rfl _ _ _ 25 _ (0, 0) _ rfl (HL.out.get 1 rfl) Try.underlying25 rfl (shp_info _ _)) rfl ?_
          exact DelSays.good HE.out HI.out HV2.out HT.out HL.out.aft
        · have hlast' : ¬ (k : Int) + 1 = (ls.length : Nat) := by omega
          obtain ⟨above, rs, hre⟩ : ∃ above rs, rest = above :: rs := by
            cases rest with
            | nil =>
              have := HRl.out
              simp at this
              omega
            | cons x y => exact ⟨x, y, rfl⟩
          subst hre
          obtain ⟨-, ha23, hasum, -⟩ := okLv_cons HOr.out
          have hal : above.length ≤ 1048576 := HS.out.fv above (List.mem_of_mem_drop (i := k + 1) (by rw [HRq.out]; exact List.mem_cons_self ..))
          have hk1 : k + 1 < us.length := by have := HUl.out; omega
          have hk2 : (k : Int) + 1 < (ls.length : Nat) := by omega
          obtain ⟨u1, hu1⟩ : ∃ u1, us[k + 1]? = some u1 := ⟨_, List.getElem?_eq_getElem hk1⟩
          have HA1 := Lib.hid (fun (wx : World) (l0 : List Int) (h : OwnTr wx w.heap.size (.slice a2 (ids.length - 1) c2) (.slice (some ⟨gL, 0, none⟩) ls.length d1) us ids' (done ++ l0 :: above :: rs)) => show OwnI wx w.heap.size u1 above from by
            have := h.lv.own (k + 1) u1 hu1
            rwa [List.getD_eq_getElem?_getD, List.getElem?_append_right (by rw [HDl.out]; omega), HDl.out, show k + 1 - k = 1 by omega] at this)
          obtain ⟨a3, c3, hsh⟩ := (HA1.out _ _ HT.out).shape
          subst hsh
          have HU1 := Lib.hid hu1
          obtain ⟨o1, o2, o3, o4⟩ := othr_spec ha23 hasum hgl
          have HQl := Lib.hid (show gon above g < l.length by omega)
          have HGm := Lib.hid (show gon above g = max g ((frm above (grpG above (g : Nat))).toNat + 1) from rfl)
          have HFb := Lib.hid (show 0 ≤ frm above (grpG above (g : Nat)) ∧ frm above (grpG above (g : Nat)) ≤ (g : Int) from ⟨frm_nonneg (pos_of ha23) _, (grp_spec above (g : Nat) (by omega) (by omega)).2.1⟩)
          have HLn := Lib.hid (fun (wx : World) (l1 : List Int) (h1 : l1.length = l.length) (ho : OwnI wx w.heap.size (.slice (some ⟨gu, 0, none⟩) l.length cu) l1) (hr : Rd wx (.slice a3 above.length c3) (zv above)) => show Calls Try.prog 77 #[.slice (some ⟨gu, 0, none⟩) l.length cu, .slice a3 above.length c3, .int .i64 (g : Int)] wx fun e w' => e = .returned (.bool (decide (l1.getD (othr above g) 0 = 3))) ∧ OwnI w' w.heap.size (.slice (some ⟨gu, 0, none⟩) l.length cu) (lendL l1 above g) ∧ Fr (fun b => (Value.slice (some ⟨gu, 0, none⟩) l.length cu).ownBlock = some b) wx w' from by
            rw [← h1] at ho ⊢
            exact lend_any gu cu _ l1 above g w.heap.size wx ho hr ha23 (by rw [h1]; exact hasum) hal (by omega) (by omega))
          have HGr := Lib.hid (fun (wx : World) (hr : Rd wx (.slice a3 above.length c3) (zv above)) => group_any _ above (g : Nat) wx hr ha23 hal (by omega) (by omega))
          clear ha23 hasum o1 o2 o3 o4 hu1 hlast HD2
          go_wp2_with (first | (refine wpList_store_num rfl (.tmp 60) (.tmp 59) rfl w.heap.size gu l.length cu l g hgl 1 HOu.out rfl rfl ?_; intro wS q1 q2; clear hc0 hc1; have hc2 := num_set q1 hgl; replace HT := Lib.hid (HSet.out _ _ ▸ HT.out.cell HU.out q2 q1); replace HL := Lib.hid (HL.out.frO HOu.out (Nat.le_refl _) q2 rfl); replace HOu := Lib.hid q1; have hl0 := shp_l (HL.out.get 0 rfl); clear q1 q2; have hc3 := row_cellT HT.out.lv.row HU1.out))
          clear hc2 hl0 hc3
          refine (HLn.out _ (l.set g 1) (List.length_set ..) HOu.out (HA1.out _ _ HT.out).rd).mono ?_
          rintro e wl ⟨rfl, ho, hf⟩
          replace HT := Lib.hid (HSet.out _ _ ▸ HT.out.cell HU.out hf ho)
          replace HL := Lib.hid (HL.out.frO HOu.out (Nat.le_refl _) hf rfl)
          replace HOu := Lib.hid ho
          clear ho hf HLn
          have hL2 := lendL_length (l.set g 1) above g
          rw [List.length_set] at hL2
          by_cases hq : (l.set g 1).getD (othr above g) 0 = 3
          · rw [decide_eq_true hq]
            have HV2 := Lib.hid (show delLv ids ls id = done ++ lendL (l.set g 1) above g :: above :: rs by rw [HV.out, HIn.out, HDq.out _ _ HX2.out hq])
            clear hq HV HIn HDq HDg hL2
            generalize lendL (l.set g 1) above g = l2 at *
            go_wp2_with (first | (refine wpList_load_rowG (by kernel_rfl) 25 (.tmp 2) rfl _ rfl _ _ _ _ (HL.out.get 0 rfl) Try.underlying25 rfl (shp_info _ _) ?_) | (refine wpList_store_shp rfl (.tmp 4) (.tmp 89) _ _ _ (.slice a2 (ids.length - 1) c2) (.slice (some ⟨gL, 0, none⟩) ls.length d1) rfl rfl rfl rfl rfl (HL.out.get 1 rfl) ?_; intro w9 b1 b2 b3; replace HT := Lib.hid (HT.out.stored (HL.out.get 1 rfl) (by decide) (by decide) b2.out); replace HL := Lib.hid (HL.out.store 1 rfl b1 b2 b3); clear b1 b2 b3; try simp only [List.nil_append, List.cons_append, List.set_cons_zero, List.set_cons_succ] at HL))
            refine bodyPost_ret (results_cell_tmp rfl _ _ _ 25 _ (0, 0) _ rfl (HL.out.get 1 rfl) Try.underlying25 rfl (shp_info _ _)) rfl ?_
            exact DelSays.good HE.out HI.out HV2.out HT.out HL.out.aft
          · rw [decide_eq_false hq]
            have HI2 := Lib.hid (HIn.out.trans (congrArg _ (HDg.out _ _ HX2.out hq)))
            have HL2 := Lib.hid hL2
            clear hq HIn HDq HDg hL2
            generalize lendL (l.set g 1) above g = l2 at *
            have HG2 := Lib.hid (HGr.out wl (HA1.out _ _ HT.out).rd)
            clear HGr
            generalize hfq : frm above (grpG above (g : Nat)) = f at *
            generalize grpG above (g : Nat) = g2 at *
            generalize gon above g = q at *
            have hf0 := HFb.out
            have hmax : max (g : Int) (f + 1) = (q : Int) := by have := HGm.out; omega
            have hql : (q : Int) < (l.length : Nat) := by have := HQl.out; omega
            clear hfq
            go_wp2_with fail
            refine HG2.out.mono ?_
            rintro e wg ⟨rfl, rfl⟩
            have HLq := Lib.hid (fun (wx : World) (hf : Fr (fun b => (Value.slice (some ⟨gu, 0, none⟩) l.length cu).ownBlock = some b) wg wx) => shp_l ((hf.block w.heap.size (heap_lt (HL.out.get 0 rfl)) (fun q => absurd rfl (own_off HOu.out (HL.out.get 0 rfl) (by decide) q))).trans (HL.out.get 0 rfl)))
            have f1 := fun u : LaterF (fun b => (Value.slice (some ⟨gu, 0, none⟩) l.length cu).ownBlock = some b) wg => HLq.out u.w u.h
            go_wp2_with (first | (refine wp_region_lex (fun wz => ∃ u : LaterF (fun b => (Value.slice (some ⟨gu, 0, none⟩) l.length cu).ownBlock = some b) wg, wz = u.w) (fun i => ([7] : List Nat).contains i) 9 (by kernel_rfl) (by kernel_rfl) ⟨⟨wg.drew, (Fr.refl _ _).drew⟩, rfl⟩ ?_))
            change wpLx _ _ _ _ _ _ _ _ _ wg.drew
            have HDa := Lib.hid (show Aft wg wg.drew from (Below.refl _ _).drew)
            generalize wg.drew = wd at *
            try simp only [Act.put, List.setIfInBounds_toArray, List.set_cons_succ, List.set_cons_zero]
            repeat (first | (refine lx_skipT (by go_big_quiet_skip; exact wpQuiet_nil trivial) (by kernel_rfl) ?_; simp only [Act.put, List.setIfInBounds_toArray, List.set_cons_succ, List.set_cons_zero]) | (refine lx_quietT rfl (by go_big_quiet_want; exact quiet_false (by assumption)) (by kernel_rfl) rfl ?_; intro Kx hKx; go_big_quiet_op; go_big_quiet_on))
            have HD := Lib.hid (show Fr (fun b => (Value.slice (some ⟨gu, 0, none⟩) l.length cu).ownBlock = some b) wg wd from Fr.of_below HDa.out)
            have HCI := Lib.hid (cutI_any (.slice (some ⟨gu, 0, none⟩) l.length cu) l2 q w.heap.size wd (HOu.out.aft HDa.out) (by have := HL2.out; have := HQl.out; omega))
            refine lx_effT rfl (by go_big_quiet_want; exact quiet_false (by assumption)) (by kernel_rfl) ?_; intro Kx hKx; go_wp2_with fail
            refine HCI.out.mono ?_
            rintro e w7 ⟨u', rfl, hob, ho, hf⟩
            obtain ⟨a6, c6, rfl⟩ := ho.shape
            replace HD := Lib.hid (HD.out.trans hf)
            have HO7 := Lib.hid ho
            have HB7 := Lib.hid hob
            clear ho hf hob HCI
            go_wp2_with fail
            refine ⟨⟨⟨_, HD.out⟩, rfl⟩, ?_⟩
            repeat (first | (refine lx_skipT (by go_big_quiet_skip; exact wpQuiet_nil trivial) (by kernel_rfl) ?_; simp only [Act.put, List.setIfInBounds_toArray, List.set_cons_succ, List.set_cons_zero]) | (refine lx_quietT rfl (by go_big_quiet_want; exact quiet_false (by assumption)) (by kernel_rfl) rfl ?_; intro Kx hKx; go_big_quiet_op; go_big_quiet_on))
            refine lx_done ?_
            clear f1
            have HR7 := Lib.hid (show w7.ownsRow w.heap.size 22 1 (.slice (some ⟨gL, 0, none⟩) ls.length d1) us.length us from ownsRow_fr HT.out.lv.row HD.out fun q hq e => HT.out.lv.row_ne HOu.out e hq)
            go_wp2_with (first | (refine wpList_store_row1 rfl 22 (by kernel_rfl) (.tmp 108) (.tmp 107) rfl w.heap.size gL ls.length d1 us k hkl (.slice a6 (l2.eraseIdx q).length c6) rfl rfl HR7.out rfl rfl ?_; intro w9 q1 b2 b3; have HQ := Lib.hid q1; have HB2 := b2; have HB3 := Lib.hid b3; clear q1 b2 b3))
            have HF2 := Lib.hid (show Fr (fun b => (Value.slice (some ⟨gL, 0, none⟩) ls.length d1).ownBlock = some b) w7 w9 from fr_store rfl HB2.out HB3.out)
            have HT9 := Lib.hid (HSet.out _ _ ▸ HT.out.turn HU.out HD.out HO7.out (fun q hq => .inl (by rw [← HB7.out]; exact hq)) HF2.out HQ.out)
            have HL9 := Lib.hid ((HL.out.frO HOu.out (Nat.le_refl _) HD.out rfl).frO HR7.out (Nat.le_refl _) HF2.out rfl)
            clear HT HL HQ HB2 HB3 HO7 HB7
            go_roundw
            case rel =>
              refine ⟨k + 1, g, l.length, us.set k (.slice a6 (l2.eraseIdx q).length c6), done ++ [l2.eraseIdx q], by omega, by go_num, rfl, by rw [List.length_append, HDl.out]; rfl, ?_, ?_, hgl, by omega, ?_, HL9.out⟩
              · rw [HI2.out, HRq.out, List.append_assoc]
                rfl
              · rw [HRq.out]
                exact HOr.out
              · rw [HRq.out, List.append_assoc]
                exact HT9.out
            case measure => simp [intOf]; omega
    · obtain rfl : k = ls.length := by omega
      have hlt' : ¬ ((ls.length : Nat) : Int) < (ls.length : Nat) := by omega
      rw [List.drop_length] at HIn HT
      rw [List.append_nil] at HT
      have HV2 := Lib.hid (show delLv ids ls id = done by rw [HV.out, HIn.out]; exact List.append_nil _)
      clear hk HV HIn HOl
      go_wp2_with (first | (refine wpList_load_rowG (by kernel_rfl) 25 (.tmp 2) rfl _ rfl _ _ _ _ (HL.out.get 0 rfl) Try.underlying25 rfl (shp_info _ _) ?_) | (refine wpList_store_shp rfl (.tmp 4) (.tmp 111) _ _ _ (.slice a2 (ids.length - 1) c2) (.slice b1 ls.length d1) rfl rfl rfl rfl rfl (HL.out.get 1 rfl) ?_; intro w9 b1 b2 b3; replace HT := Lib.hid (HT.out.stored (HL.out.get 1 rfl) (by decide) (by decide) b2.out); replace HL := Lib.hid (HL.out.store 1 rfl b1 b2 b3); clear b1 b2 b3; try simp only [List.nil_append, List.cons_append, List.set_cons_zero, List.set_cons_succ] at HL))
      refine bodyPost_ret (results_cell_tmp rfl _ _ _ 25 _ (0, 0) _ rfl (HL.out.get 1 rfl) Try.underlying25 rfl (shp_info _ _)) rfl ?_
      exact DelSays.good HE.out HI.out HV2.out HT.out HL.out.aft
end Go.Proofs.Ytfgammcefaomeaa

