/- tree.Insert. -/
import Derived.Test.YtpnckphfjcnooaaT7
namespace Go.Proofs.Ytpnckphfjcnooaa
open Go Go.RowKit
set_option linter.unusedSimpArgs false
def InsSays (ids : List Int) (ls : List (List Int)) (id : Int) (w : World) (e : Ending) (w' : World) : Prop :=
  ∃ vi vl vs, e = .returned (.tuple #[.agg (shpL vi vl).toArray, .int .i64 (insE ids ls id)]) ∧ OwnTr w' w.heap.size vi vl vs (insIds ids ls id) (insLv ids ls id) ∧ Aft w w'
theorem InsSays.bad {ids : List Int} {ls : List (List Int)} {id : Int} {w w' : World} {c : Int} (h : insE ids ls id = c) (h0 : c ≠ 0) (ha : Aft w w') : InsSays ids ls id w (.returned (.tuple #[.agg (shpL (.slice none 0 0) (.slice none 0 0)).toArray, .int .i64 c])) w' := by
  subst h
  refine ⟨.slice none 0 0, .slice none 0 0, [], rfl, ?_, ha⟩
  unfold insIds insLv
  rw [if_neg h0, if_neg h0]
  exact OwnTr.nil _ _
theorem InsSays.good {ids ids' : List Int} {ls ls' : List (List Int)} {id : Int} {w w' : World} {vi vl : Value} {vs : List Value} (h : insE ids ls id = 0) (h1 : insIds ids ls id = ids') (h2 : insLv ids ls id = ls') (ho : OwnTr w' w.heap.size vi vl vs ids' ls') (ha : Aft w w') : InsSays ids ls id w (.returned (.tuple #[.agg (shpL vi vl).toArray, .int .i64 0])) w' :=
  ⟨vi, vl, vs, by rw [h], by rw [h1, h2]; exact ho, ha⟩
instance (S : Nat → Prop) (w0 : World) : Inhabited (LaterF S w0) := ⟨⟨w0, Fr.refl _ _⟩⟩
theorem OwnTr.snoc {w wA w' : World} {base : Nat} {vi vl vl' u : Value} {vs : List Value} {ids x : List Int} {ls : List (List Int)} (h : OwnTr w base vi vl vs ids ls) (ha : Aft w wA) (hu : OwnI wA base u x) (hq : ∀ g, u.ownBlock = some g → w.heap.size ≤ g)
    (hrow : w'.ownsRow base 22 1 vl' (vs ++ [u]).length (vs ++ [u])) (hf : Fr (fun b => vl.ownBlock = some b) wA w') : OwnTr w' base vi vl' (vs ++ [u]) ids (ls ++ [x]) := by
  refine ⟨(h.ids.aft ha).fr hf fun g hg e => h.lv.row_ne h.ids hg e, ⟨hrow, by rw [List.length_append, List.length_append, h.lv.len]; rfl, fun i u' hi => ?_, fun i j u1 u2 g hij hi hj hg => ?_⟩, fun i u' g hi hg => ?_⟩
  · by_cases hlt : i < vs.length
    · rw [List.getElem?_append_left hlt] at hi
      rw [List.getD_eq_getElem?_getD, List.getElem?_append_left (by rw [← h.lv.len]; exact hlt), ← List.getD_eq_getElem?_getD]
      exact ((h.lv.own i u' hi).aft ha).fr hf fun g hg e => h.lv.row_ne (h.lv.own i u' hi) hg e
    · obtain ⟨e1, e2⟩ := getElem?_snoc hi hlt
      subst e2
      rw [e1, h.lv.len, List.getD_eq_getElem?_getD, List.getElem?_append_right (Nat.le_refl _), Nat.sub_self]
      exact hu.fr hf fun g hg e => by
        have h1 := hq g hg
        have h2 := (own_lt h.lv.row e).2
        omega
  · by_cases hlt : j < vs.length
    · rw [List.getElem?_append_left hlt] at hj
      rw [List.getElem?_append_left (by omega)] at hi
      exact h.lv.dis i j u1 u2 g hij hi hj hg
    · obtain ⟨e1, e2⟩ := getElem?_snoc hj hlt
      subst e2
      rw [List.getElem?_append_left (by omega)] at hi
      intro e
      have h1 := hq g e
      have h2 := ((h.lv.own i u1 hi).lt hg).2
      omega
  · by_cases hlt : i < vs.length
    · rw [List.getElem?_append_left hlt] at hi
      exact h.dis i u' g hi hg
    · obtain ⟨e1, e2⟩ := getElem?_snoc hi hlt
      subst e2
      intro e
      have h1 := hq g hg
      have h2 := (h.ids.lt e).2
      omega
theorem nxt_max (ids : List Int) (id : Int) (h : ids.length ≤ 1048576) : max (wrap64 (((cnt ids id : Nat) : Int) - 1)) 0 = (nxt ids id : Nat) := by
  have h1 := cnt_le ids id
  unfold nxt
  by_cases hz : cnt ids id = 0
  · rw [hz]
    unfold wrap64
    omega
  · rw [wrap64_mid (by omega) (by omega)]
    omega
set_option maxRecDepth 100000 in
set_option maxHeartbeats 4000000 in
theorem tinsert_any (vi vl : Value) (ids : List Int) (ls : List (List Int)) (id : Int) (w : World) (hi : Rd w vi (zv ids)) (hl : RdLs w vl ls) (hs : Small ids ls) :
    Calls Try.prog 38 #[.agg (shpL vi vl).toArray, .int .i64 id] w (InsSays ids ls id w) := by
  have HCk := Lib.hid (fun (wx : World) (ha : Aft w wx) => tcheck_any vi vl ids ls wx (hi.grow ha) (hl.aft ha) hs)
  have HFd := Lib.hid (fun (wx : World) (ha : Aft w wx) => find_any vi vl ids id wx (hi.grow ha) hs.fi)
  have HOw := Lib.hid (fun (wx : World) (ha : Aft w wx) => own_any vi vl ids ls wx (hi.grow ha) (hl.aft ha) hs)
  have HS := Lib.hid hs
  obtain ⟨ao, cap, rfl, -, -⟩ := hi.numS
  obtain ⟨bo, dap, rfl, -⟩ := hl.shape
  have HL := Lib.hid (Led.start w)
  clear hi hl hs
  go_enter Try.func38, Try.ntmps38
  go_wp2_with (first | (refine wpList_boxO rfl 26 (.tmp 0) rfl (.agg (shpL (.slice ao ids.length cap) (.slice bo ls.length dap)).toArray) rfl (.cells (shpL (.slice ao ids.length cap) (.slice bo ls.length dap)).toArray 26) (box_shp _) ?_; intro wB aa gg zz; replace HL := Lib.hid (HL.out.alloc aa gg.out); clear aa gg zz; try simp only [List.nil_append, List.cons_append, List.set_cons_zero, List.set_cons_succ] at HL) | (refine wpList_allocO rfl 26 rfl (.cells (shpL (.slice none 0 0) (.slice none 0 0)).toArray 26) alloc_shp ?_; intro w' aa gg zz; replace HL := Lib.hid (HL.out.alloc aa gg.out); clear aa gg zz; try simp only [List.nil_append, List.cons_append, List.set_cons_zero, List.set_cons_succ] at HL) | (refine wpList_load_rowG (by kernel_rfl) 26 (.tmp 2) rfl _ rfl _ _ _ _ (HL.out.get 0 rfl) Try.underlying26 rfl (shp_info _ _) ?_))
  refine (HCk.out _ HL.out.aft).mono ?_
  rintro e w2 ⟨rfl, h2⟩
  replace HL := Lib.hid (HL.out.call h2)
  clear h2 HCk
  by_cases hok : OkT ids ls
  rotate_left
  · have HE := Lib.hid (show insE ids ls id = 1 from if_pos (.inl hok))
    rw [chk_bad hok]
    go_wp2_with (first | (refine wpList_buildO (by kernel_rfl) 26 #[] rfl #[] (by kernel_rfl) _ (build_shp0) ?_) | (refine wpList_store_shp rfl (.tmp 4) (.tmp 24) _ _ _ (.slice none 0 0) (.slice none 0 0) rfl rfl rfl rfl rfl (HL.out.get 1 rfl) ?_; intro w3 b1 b2 b3; replace HL := Lib.hid (HL.out.store 1 rfl b1 b2 b3); clear b1 b2 b3; try simp only [List.nil_append, List.cons_append, List.set_cons_zero, List.set_cons_succ] at HL))
    refine bodyPost_ret (results_cell_tmp rfl _ _ _ 26 _ (0, 0) _ rfl (HL.out.get 1 rfl) Try.underlying26 rfl (shp_info _ _)) rfl ?_
    exact InsSays.bad HE.out (by decide) HL.out.aft
  rw [chkT_zero.2 hok]
  by_cases hid : id < 0 ∨ 1048576 < id
  · have HE := Lib.hid (show insE ids ls id = 1 from if_pos (.inr hid))
    have hn : ¬ id < 0 → 1048576 < id := fun q => by omega
    by_cases h0 : id < 0
    all_goals
      first | (have hn2 := hn h0) | skip
      clear hn hid
      go_wp2_with (first | (refine wpList_buildO (by kernel_rfl) 26 #[] rfl #[] (by kernel_rfl) _ (build_shp0) ?_) | (refine wpList_store_shp rfl (.tmp 4) (.tmp 24) _ _ _ (.slice none 0 0) (.slice none 0 0) rfl rfl rfl rfl rfl (HL.out.get 1 rfl) ?_; intro w3 b1 b2 b3; replace HL := Lib.hid (HL.out.store 1 rfl b1 b2 b3); clear b1 b2 b3; try simp only [List.nil_append, List.cons_append, List.set_cons_zero, List.set_cons_succ] at HL))
      refine bodyPost_ret (results_cell_tmp rfl _ _ _ 26 _ (0, 0) _ rfl (HL.out.get 1 rfl) Try.underlying26 rfl (shp_info _ _)) rfl ?_
      exact InsSays.bad HE.out (by decide) HL.out.aft
  have hid1 : ¬ id < 0 := fun q => hid (.inl q)
  have hid2 : ¬ 1048576 < id := fun q => hid (.inr q)
  have HId := Lib.hid (show insE ids ls id = if id ∈ ids then 7 else if ids.length = 1000 then 8 else 0 from if_neg (by
    rintro (q | q | q)
    · exact q hok
    · exact hid1 q
    · exact hid2 q))
  have HOk := Lib.hid hok
  clear hok hid
  go_wp2_with (first | (refine wpList_load_rowG (by kernel_rfl) 26 (.tmp 2) rfl _ rfl _ _ _ _ (HL.out.get 0 rfl) Try.underlying26 rfl (shp_info _ _) ?_))
  refine (HFd.out _ HL.out.aft).mono ?_
  rintro e w3 ⟨rfl, h3⟩
  replace HL := Lib.hid (HL.out.call h3)
  clear h3 HFd hid1 hid2
  by_cases hin : id ∈ ids
  · have HE := Lib.hid (show insE ids ls id = 7 by rw [HId.out, if_pos hin])
    rw [decide_eq_true hin]
    clear hin
    go_wp2_with (first | (refine wpList_buildO (by kernel_rfl) 26 #[] rfl #[] (by kernel_rfl) _ (build_shp0) ?_) | (refine wpList_store_shp rfl (.tmp 4) (.tmp 33) _ _ _ (.slice none 0 0) (.slice none 0 0) rfl rfl rfl rfl rfl (HL.out.get 1 rfl) ?_; intro w3 b1 b2 b3; replace HL := Lib.hid (HL.out.store 1 rfl b1 b2 b3); clear b1 b2 b3; try simp only [List.nil_append, List.cons_append, List.set_cons_zero, List.set_cons_succ] at HL))
    refine bodyPost_ret (results_cell_tmp rfl _ _ _ 26 _ (0, 0) _ rfl (HL.out.get 1 rfl) Try.underlying26 rfl (shp_info _ _)) rfl ?_
    exact InsSays.bad HE.out (by decide) HL.out.aft
  rw [decide_eq_false hin]
  have HNin := Lib.hid hin
  have hi0 := shp_i (HL.out.get 0 rfl)
  clear hin
  by_cases hfull : ids.length = 1000
  · have HE := Lib.hid (show insE ids ls id = 8 by rw [HId.out, if_neg HNin.out, if_pos hfull])
    have hfi : ((ids.length : Nat) : Int) = 1000 := by omega
    clear hfull
    go_wp2_with (first | (refine wpList_buildO (by kernel_rfl) 26 #[] rfl #[] (by kernel_rfl) _ (build_shp0) ?_) | (refine wpList_store_shp rfl (.tmp 4) (.tmp 39) _ _ _ (.slice none 0 0) (.slice none 0 0) rfl rfl rfl rfl rfl (HL.out.get 1 rfl) ?_; intro w3 b1 b2 b3; replace HL := Lib.hid (HL.out.store 1 rfl b1 b2 b3); clear b1 b2 b3; try simp only [List.nil_append, List.cons_append, List.set_cons_zero, List.set_cons_succ] at HL))
    refine bodyPost_ret (results_cell_tmp rfl _ _ _ 26 _ (0, 0) _ rfl (HL.out.get 1 rfl) Try.underlying26 rfl (shp_info _ _)) rfl ?_
    exact InsSays.bad HE.out (by decide) HL.out.aft
  have HE := Lib.hid (show insE ids ls id = 0 by rw [HId.out, if_neg HNin.out, if_neg hfull])
  have hfi : ¬ ((ids.length : Nat) : Int) = 1000 := by omega
  clear hfull
  go_wp2_with (first | (refine wpList_load_rowG (by kernel_rfl) 26 (.tmp 2) rfl _ rfl _ _ _ _ (HL.out.get 0 rfl) Try.underlying26 rfl (shp_info _ _) ?_))
  clear hi0
  refine (HOw.out _ HL.out.aft).mono ?_
  rintro e w4 ⟨vi', vl', vs, rfl, ho, h4⟩
  have HT := Lib.hid (ho.mono HL.out.aft.size)
  obtain ⟨a1, c1, b1, d1, rfl, rfl⟩ := ho.shape
  replace HL := Lib.hid (HL.out.call h4)
  clear h4 ho HOw
  go_wp2_with (first | (refine wpList_store_shp rfl (.tmp 2) (.tmp 41) _ _ _ (.slice a1 ids.length c1) (.slice b1 ls.length d1) rfl rfl rfl rfl rfl (HL.out.get 0 rfl) ?_; intro w5 b1 b2 b3; replace HT := Lib.hid (HT.out.stored (HL.out.get 0 rfl) (by decide) (by decide) b2.out); replace HL := Lib.hid (HL.out.store 0 rfl b1 b2 b3); clear b1 b2 b3; try simp only [List.nil_append, List.cons_append, List.set_cons_zero, List.set_cons_succ] at HL; have hi0 := shp_i (HL.out.get 0 rfl)))
  clear hi0
  have HT6 := Lib.hid (HT.out.aft (Aft.alloc w5 (.cells #[.int .i64 id] 3 (0, 0))))
  have HL6 := Lib.hid (HL.out.call (Aft.alloc w5 (.cells #[.int .i64 id] 3 (0, 0))))
  have hg6 := heap_alloc_new w5 (.cells #[.int .i64 id] 3 (0, 0))
  have hne : (Value.slice a1 ids.length c1).ownBlock ≠ some w5.heap.size := fun q => absurd (HT.out.ids.lt q).2 (Nat.lt_irrefl _)
  have hci : cnt ids id ≤ ids.length := cnt_le ids id
  refine (insI_any _ ids (cnt ids id) id w5.heap.size w.heap.size _ HT6.out.ids hci HS.out.fi (HL6.out.aft.size) hg6 hne).mono ?_
  clear hg6 hne hci HL HT
  rintro e w7 ⟨vi2, rfl, ho, hf, hn⟩
  have HT := Lib.hid (HT6.out.turnI hf ho hn)
  have HL := Lib.hid (HL6.out.frO (show (w5.alloc (.cells #[.int .i64 id] 3 (0, 0))).ownsRow w.heap.size 3 1 (.slice a1 ids.length c1) ids.length (zv ids) from HT6.out.ids) (Nat.le_refl _) hf rfl)
  clear ho hf hn HT6 HL6
  obtain ⟨a2, c2, hv2⟩ := HT.out.ids.shape
  subst hv2
  have hlen : (putI ids (cnt ids id) id).length = ids.length + 1 := putI_length id (cnt_le ids id)
  replace HT := Lib.hid (show OwnTr w7 w.heap.size (.slice a2 (ids.length + 1) c2) (.slice b1 ls.length d1) vs (putI ids (cnt ids id) id) ls from hlen ▸ HT.out)
  rw [hlen]
  clear hlen
  by_cases h0 : ids.length = 0
  · have hone : ((ids.length : Nat) : Int) + 1 = 1 := by omega
    have HI := Lib.hid (show insIds ids ls id = putI ids (cnt ids id) id from if_pos HE.out)
    have HV := Lib.hid (show insLv ids ls id = ls from (if_pos HE.out).trans (if_pos h0))
    clear h0
    go_wp2_with (first | (refine wpList_store_shpI rfl (.tmp 48) (.tmp 47) _ _ _ (.slice a2 (ids.length + 1) c2) rfl rfl rfl rfl rfl (HL.out.get 0 rfl) ?_; intro w8 b1 b2 b3; replace HT := Lib.hid (HT.out.stored (HL.out.get 0 rfl) (by decide) (by decide) b2.out); replace HL := Lib.hid (HL.out.store 0 rfl b1 b2 b3); clear b1 b2 b3; try simp only [List.nil_append, List.cons_append, List.set_cons_zero, List.set_cons_succ] at HL; have hi0 := shp_i (HL.out.get 0 rfl)) | (refine wpList_load_rowG (by kernel_rfl) 26 (.tmp 2) rfl _ rfl _ _ _ _ (HL.out.get 0 rfl) Try.underlying26 rfl (shp_info _ _) ?_) | (refine wpList_store_shp rfl (.tmp 4) (.tmp 53) _ _ _ (.slice a2 (ids.length + 1) c2) (.slice b1 ls.length d1) rfl rfl rfl rfl rfl (HL.out.get 1 rfl) ?_; intro w9 b1 b2 b3; clear hi0; replace HT := Lib.hid (HT.out.stored (HL.out.get 1 rfl) (by decide) (by decide) b2.out); replace HL := Lib.hid (HL.out.store 1 rfl b1 b2 b3); clear b1 b2 b3; try simp only [List.nil_append, List.cons_append, List.set_cons_zero, List.set_cons_succ] at HL))
    refine bodyPost_ret (results_cell_tmp rfl _ _ _ 26 _ (0, 0) _ rfl (HL.out.get 1 rfl) Try.underlying26 rfl (shp_info _ _)) rfl ?_
    exact InsSays.good HE.out HI.out HV.out HT.out HL.out.aft
  have hone : ¬ ((ids.length : Nat) : Int) + 1 = 1 := by omega
  have HI := Lib.hid (show insIds ids ls id = putI ids (cnt ids id) id from if_pos HE.out)
  have HV := Lib.hid (show insLv ids ls id = insL ls (nxt ids id : Nat) from (if_pos HE.out).trans (if_neg h0))
  have hmax := nxt_max ids id HS.out.fi
  clear h0
  go_wp2_with (first | (refine wpList_store_shpI rfl (.tmp 48) (.tmp 47) _ _ _ (.slice a2 (ids.length + 1) c2) rfl rfl rfl rfl rfl (HL.out.get 0 rfl) ?_; intro w8 b1 b2 b3; replace HT := Lib.hid (HT.out.stored (HL.out.get 0 rfl) (by decide) (by decide) b2.out); replace HL := Lib.hid (HL.out.store 0 rfl b1 b2 b3); clear b1 b2 b3; try simp only [List.nil_append, List.cons_append, List.set_cons_zero, List.set_cons_succ] at HL; have hi0 := shp_i (HL.out.get 0 rfl); have hl0 := shp_l (HL.out.get 0 rfl)))
  have HNx := Lib.hid (show ((nxt ids id : Nat) : Int) < (ids.length : Nat) by
    have h1 := cnt_le ids id
    have h2 : ¬ ids.length = 0 := fun q => hone (by omega)
    unfold nxt
    omega)
  have hob : ((((ids.length : Nat) : Int) + 1 == 1) : Bool) = false := by simpa using hone
  rw [hob]
  clear hmax hone hi0 hl0 HId HNin hfi hob
  generalize hIQ : putI ids (cnt ids id) id = ids' at *
  clear hIQ
  go_loopw [8, 60] (fun v8 v60 wr => ∃ (k a n : Nat) (us : List Value) (done : List (List Int)), k ≤ ls.length ∧ v60 = .int .i64 (k : Int) ∧ v8 = .int .i64 (a : Int) ∧ done.length = k ∧ insL ls (nxt ids id : Nat) = done ++ insL (ls.drop k) (a : Nat) ∧ okLv (n : Nat) (ls.drop k) = true ∧ a < n ∧ OwnTr wr w.heap.size (.slice a2 (ids.length + 1) c2) (.slice b1 ls.length d1) us ids' (done ++ ls.drop k) ∧ Led w wr [(w.heap.size, .cells (shpL (.slice a2 (ids.length + 1) c2) (.slice b1 ls.length d1)).toArray 26), (wB.heap.size, .cells (shpL (.slice none 0 0) (.slice none 0 0)).toArray 26)]) (fun _ v _ => ls.length - (intOf v).toNat)
  case atStart => exact ⟨0, nxt ids id, ids.length, vs, [], by omega, rfl, rfl, rfl, rfl, HOk.out.2, by have := HNx.out; omega, HT.out, HL.out⟩
  case round =>
    clear HL HT
    obtain ⟨k, a, n, us, done, hk, rfl, rfl, hdl, hins, hok, han, hT, hL⟩ := hrel
    have HL := Lib.hid hL
    have HT := Lib.hid hT
    have HDl := Lib.hid hdl
    have HIn := Lib.hid hins
    have HOl := Lib.hid hok
    clear hL hT hdl hins hok
    by_cases hlt : k < ls.length
    · have hlt' : (k : Int) < (ls.length : Nat) := by omega
      have hfl := HS.out.fl
      have hd := drop_cons ls k hlt
      have hfv := HS.out.fv _ (getD_mem hlt)
      rw [hd] at HIn HOl HT
      generalize ls.getD k [] = l at *
      generalize hrq : ls.drop (k + 1) = rest at *
      have HRq := Lib.hid hrq
      clear hrq
      clear hd
      obtain ⟨h2n, hl23, hsum, hokr⟩ := okLv_cons HOl.out
      clear HOl
      have HOr := Lib.hid hokr
      have HSm := Lib.hid hsum
      have H23 := Lib.hid hl23
      have hln := HT.out.lv.len
      rw [List.length_append, List.length_cons, HDl.out] at hln
      have hkl : k < us.length := by omega
      obtain ⟨u, hu⟩ : ∃ u, us[k]? = some u := ⟨_, List.getElem?_eq_getElem hkl⟩
      have hgd : (done ++ l :: rest).getD k [] = l := by
        rw [List.getD_eq_getElem?_getD, List.getElem?_append_right (by rw [HDl.out]; exact Nat.le_refl _), HDl.out, Nat.sub_self]
        rfl
      have hou : OwnI wr w.heap.size u l := by
        have := HT.out.lv.own k u hu
        rwa [hgd] at this
      have hlp : 0 < l.length := by
        rcases l with _ | ⟨x, l⟩
        · simp at hsum
          omega
        · exact Nat.succ_pos _
      obtain ⟨gu, cu, curu, rfl, hgu, hcu⟩ := own_row_blk hou hlp
      have hrow := HT.out.lv.row
      obtain ⟨gL, cL, cur, he, hgb, hgL⟩ := own_row_blk hrow (by omega)
      injection he with he1 he2 he3
      subst he1 he3
      have hgr := group_any (.slice (some ⟨gu, 0, none⟩) l.length cu) l (a : Nat) wr hou.rd hl23 hfv (by omega) (by omega)
      have HGs := Lib.hid (grp_spec l (a : Nat) (by omega) (by omega))
      have hc0 : wr.cell? ⟨gL, k, none⟩ = some (.slice (some ⟨gu, 0, none⟩) l.length cu) := by
        obtain ⟨a1, c1, he', -, -, -, h4⟩ := Rd.of_own hrow
        injection he' with q1 q2 q3
        have := h4 ⟨gL, 0, none⟩ (by rw [← q1]) k _ hu
        rwa [Addr.add_lit, Nat.zero_add] at this
      have HOu := Lib.hid hou
      have HSet := Lib.hid (fun (l0 l' : List Int) => show (done ++ l0 :: rest).set k l' = done ++ l' :: rest by
        rw [List.set_append_right _ _ (by rw [HDl.out]; exact Nat.le_refl _), HDl.out, Nat.sub_self]
        rfl)
      have HU := Lib.hid hu
      have HGd := Lib.hid hgd
      have HHr := Lib.hid hgr
      have HIc := Lib.hid (show insL (l :: rest) (a : Nat) = if l.getD (grpG l (a : Nat)) 0 = 2 then l.set (grpG l (a : Nat)) 3 :: rest else putI (l.set (grpG l (a : Nat)) 2) (grpG l (a : Nat) + 1) 2 :: insL rest (grpG l (a : Nat) : Nat) from rfl)
      generalize grpG l (a : Nat) = g at *
      have hgl := HGs.out.1
      have hc1 : wr.cell? ⟨gu, g, none⟩ = some (.int .i64 (l.getD g 0)) := by
        have := Rd.num_at HOu.out.rd hgl
        rwa [Nat.zero_add] at this
      clear hou hu hgd hgr hl23 hsum hokr hgu hcu hrow hgb hgL he2 hln hlp HGs
      go_wp2_with fail
      refine HHr.out.mono ?_
      rintro e wg ⟨rfl, rfl⟩
      by_cases h2 : l.getD g 0 = 2
      · rw [h2] at hc1
        have HV2 := Lib.hid (show insLv ids ls id = done ++ l.set g 3 :: rest by rw [HV.out, HIn.out, HIc.out, if_pos h2])
        clear h2 HV HIn HIc
        go_wp2_with (first | (refine wpList_store_num rfl (.tmp 78) (.const (.int .i64 3)) rfl w.heap.size gu l.length cu l g hgl 3 HOu.out rfl rfl ?_; intro wS q1 q2; clear hc0 hc1; replace HT := Lib.hid (HSet.out _ _ ▸ HT.out.cell HU.out q2 q1); replace HL := Lib.hid (HL.out.frO HOu.out (Nat.le_refl _) q2 rfl); clear q1 q2) | (refine wpList_load_rowG (by kernel_rfl) 26 (.tmp 2) rfl _ rfl _ _ _ _ (HL.out.get 0 rfl) Try.underlying26 rfl (shp_info _ _) ?_) | (refine wpList_store_shp rfl (.tmp 4) (.tmp 79) _ _ _ (.slice a2 (ids.length + 1) c2) (.slice (some ⟨gL, 0, none⟩) ls.length d1) rfl rfl rfl rfl rfl (HL.out.get 1 rfl) ?_; intro w9 b1 b2 b3; replace HT := Lib.hid (HT.out.stored (HL.out.get 1 rfl) (by decide) (by decide) b2.out); replace HL := Lib.hid (HL.out.store 1 rfl b1 b2 b3); clear b1 b2 b3; try simp only [List.nil_append, List.cons_append, List.set_cons_zero, List.set_cons_succ] at HL))
        refine bodyPost_ret (results_cell_tmp rfl _ _ _ 26 _ (0, 0) _ rfl (HL.out.get 1 rfl) Try.underlying26 rfl (shp_info _ _)) rfl ?_
        exact InsSays.good HE.out HI.out HV2.out HT.out HL.out.aft
      · have hIc := HIc.out
        rw [if_neg h2] at hIc
        rw [hIc] at HIn
        clear HIc hIc HSm H23
        generalize l.getD g 0 = x at h2 hc1
        go_wp2_with (first | (refine wpList_store_num rfl (.tmp 82) (.const (.int .i64 2)) rfl w.heap.size gu l.length cu l g hgl 2 HOu.out rfl rfl ?_; intro wS q1 q2; clear hc0 hc1 h2; replace HT := Lib.hid (HSet.out _ _ ▸ HT.out.cell HU.out q2 q1); replace HL := Lib.hid (HL.out.frO HOu.out (Nat.le_refl _) q2 rfl); replace HOu := Lib.hid q1; clear q1 q2; have hl2 : (l.set g (2 : Int)).length = l.length := List.length_set ..; generalize l.set g 2 = l2 at *; have HL2 := Lib.hid hl2; clear hl2; have HLq := Lib.hid (fun (wx : World) (hf : Fr (fun b => (Value.slice (some ⟨gu, 0, none⟩) l.length cu).ownBlock = some b) wS wx) => shp_l ((hf.block w.heap.size (heap_lt (HL.out.get 0 rfl)) (fun q => absurd rfl (own_off HOu.out (HL.out.get 0 rfl) (by decide) q))).trans (HL.out.get 0 rfl))); have f1 := fun u : LaterF (fun b => (Value.slice (some ⟨gu, 0, none⟩) l.length cu).ownBlock = some b) wS => HLq.out u.w u.h) | (refine wp_region_lex (fun wz => ∃ u : LaterF (fun b => (Value.slice (some ⟨gu, 0, none⟩) l.length cu).ownBlock = some b) wS, wz = u.w) (fun i => ([6, 7] : List Nat).contains i) 9 (by kernel_rfl) (by kernel_rfl) ⟨⟨wS.drew, (Fr.refl _ _).drew⟩, rfl⟩ ?_))
        change wpLx _ _ _ _ _ _ _ _ _ wS.drew
        have HDa := Lib.hid (show Aft wS wS.drew from (Below.refl _ _).drew)
        generalize wS.drew = wd at *
        simp only [Act.put, List.setIfInBounds_toArray, List.set_cons_succ, List.set_cons_zero]
        repeat (first | (refine lx_skipT (by go_big_quiet_skip; exact wpQuiet_nil trivial) (by kernel_rfl) ?_; simp only [Act.put, List.setIfInBounds_toArray, List.set_cons_succ, List.set_cons_zero]) | (refine lx_quietT rfl (by go_big_quiet_want; exact quiet_false (by assumption)) (by kernel_rfl) rfl ?_; intro Kx hKx; go_big_quiet_op; go_big_quiet_on))
        refine lx_effT rfl (by go_big_quiet_want; exact quiet_false (by assumption)) (by kernel_rfl) ?_; intro Kx hKx; go_wp2_with fail
        have HD := Lib.hid (show Fr (fun b => (Value.slice (some ⟨gu, 0, none⟩) l.length cu).ownBlock = some b) wS wd from Fr.of_below HDa.out)
        refine ⟨⟨⟨_, HD.out.alloc _⟩, rfl⟩, ?_⟩
        have HO6 := Lib.hid ((HOu.out.aft HDa.out).aft (Aft.alloc wd (.cells #[.int .i64 2] 3 (0, 0))))
        have HSz := Lib.hid (Nat.le_trans HL.out.aft.size HDa.out.size)
        have HSd := Lib.hid HDa.out.size
        have hg6 := heap_alloc_new wd (.cells #[.int .i64 2] 3 (0, 0))
        have hne : (Value.slice (some ⟨gu, 0, none⟩) l.length cu).ownBlock ≠ some wd.heap.size := fun q => absurd ((HOu.out.aft HDa.out).lt q).2 (Nat.lt_irrefl _)
        have hcI := insI_any (.slice (some ⟨gu, 0, none⟩) l.length cu) l2 (g + 1) 2 wd.heap.size w.heap.size _ HO6.out (by have := HL2.out; omega) (by have := HL2.out; omega) (Nat.le_trans HSz.out (Aft.alloc wd (.cells #[.int .i64 2] 3 (0, 0))).size) hg6 hne
        rw [show (((g + 1 : Nat)) : Int) = (g : Int) + 1 from rfl] at hcI
        have HCI := Lib.hid hcI
        clear hg6 hne hcI
        refine lx_effT rfl (by go_big_quiet_want; exact quiet_false (by assumption)) (by kernel_rfl) ?_; intro Kx hKx; go_wp2_with fail
        refine HCI.out.mono ?_
        rintro e w7 ⟨u', rfl, ho, hf, hn⟩
        obtain ⟨a6, c6, rfl⟩ := ho.shape
        replace HD := Lib.hid ((HD.out.alloc (.cells #[.int .i64 2] 3 (0, 0))).trans hf)
        have HO7 := Lib.hid ho
        have HN7 := Lib.hid hn
        clear ho hf hn HCI HO6
        go_wp2_with fail
        refine ⟨⟨⟨_, HD.out⟩, rfl⟩, ?_⟩
        repeat (first | (refine lx_skipT (by go_big_quiet_skip; exact wpQuiet_nil trivial) (by kernel_rfl) ?_; simp only [Act.put, List.setIfInBounds_toArray, List.set_cons_succ, List.set_cons_zero]) | (refine lx_quietT rfl (by go_big_quiet_want; exact quiet_false (by assumption)) (by kernel_rfl) rfl ?_; intro Kx hKx; go_big_quiet_op; go_big_quiet_on))
        refine lx_done ?_
        clear f1
        have HR7 := Lib.hid (show w7.ownsRow w.heap.size 22 1 (.slice (some ⟨gL, 0, none⟩) ls.length d1) us.length us from ownsRow_fr HT.out.lv.row HD.out fun q hq e => HT.out.lv.row_ne HOu.out e hq)
        go_wp2_with (first | (refine wpList_store_row1 rfl 22 (by kernel_rfl) (.tmp 91) (.tmp 90) rfl w.heap.size gL ls.length d1 us k hkl (.slice a6 (putI l2 (g + 1) 2).length c6) rfl rfl HR7.out rfl rfl ?_; intro w9 q1 b2 b3; have HQ := Lib.hid q1; have HB2 := b2; have HB3 := Lib.hid b3; clear q1 b2 b3))
        have HF2 := Lib.hid (show Fr (fun b => (Value.slice (some ⟨gL, 0, none⟩) ls.length d1).ownBlock = some b) w7 w9 from fr_store rfl HB2.out HB3.out)
        have HT9 := Lib.hid (HSet.out _ _ ▸ HT.out.turn HU.out HD.out HO7.out (fun q hq => (HN7.out q hq).imp (fun z => z) fun hs => Nat.le_trans HSd.out (Nat.le_trans (Aft.alloc wd (.cells #[.int .i64 2] 3 (0, 0))).size hs)) HF2.out HQ.out)
        have HL9 := Lib.hid ((HL.out.frO HOu.out (Nat.le_refl _) HD.out rfl).frO HR7.out (Nat.le_refl _) HF2.out rfl)
        have HPl := Lib.hid (putI_length (xs := l2) (i := g + 1) 2 (by have := HL2.out; omega))
        clear HT HL HQ HB2 HB3 HO7 HN7
        go_roundw
        case rel =>
          refine ⟨k + 1, g, l.length, us.set k (.slice a6 (putI l2 (g + 1) 2).length c6), done ++ [putI l2 (g + 1) 2], by omega, by go_num, rfl, by rw [List.length_append, HDl.out]; rfl, ?_, ?_, hgl, ?_, HL9.out⟩
          · rw [HIn.out, HRq.out, List.append_assoc]
            rfl
          · rw [HRq.out]
            exact HOr.out
          · rw [HRq.out, List.append_assoc]
            exact HT9.out
        case measure => simp [intOf]; omega
    · obtain rfl : k = ls.length := by omega
      have hlt' : ¬ ((ls.length : Nat) : Int) < (ls.length : Nat) := by omega
      rw [List.drop_length] at HIn HT
      rw [List.append_nil] at HT
      have HV2 := Lib.hid (show insLv ids ls id = done ++ [[2]] from HV.out.trans HIn.out)
      clear hk HV HIn HOl HNx
      have hl0 := shp_l (HL.out.get 0 rfl)
      have hg1 := heap_alloc_new wr (.cells #[.int .i64 2] 3 (0, 0))
      have ha1 := Aft.alloc wr (.cells #[.int .i64 2] 3 (0, 0))
      generalize hw1 : wr.alloc (.cells #[.int .i64 2] 3 (0, 0)) = w1 at *
      have hs1 : w1.heap.size = wr.heap.size + 1 := by rw [← hw1, World.size_alloc]
      have hg2 := heap_alloc_new w1 (.cells #[.slice (some ⟨wr.heap.size, 0, none⟩) 1 1] 22 (0, 0))
      have ha2 := Aft.alloc w1 (.cells #[.slice (some ⟨wr.heap.size, 0, none⟩) 1 1] 22 (0, 0))
      have hon : OwnI w1 w.heap.size (.slice (some ⟨wr.heap.size, 0, none⟩) 1 1) [2] := own_blk (xs := zv [2]) hg1 HL.out.aft.size (by decide)
      subst hw1
      rw [hs1] at hg2
      have HA := Lib.hid (Aft.trans ha1 ha2)
      have HOn := Lib.hid (hon.aft ha2)
      have HN := Lib.hid (show ∀ j u, [Value.slice (some ⟨wr.heap.size, 0, none⟩) 1 1][j]? = some u → ((wr.alloc (.cells #[.int .i64 2] 3 (0, 0))).alloc (.cells #[.slice (some ⟨wr.heap.size, 0, none⟩) 1 1] 22 (0, 0))).cell? ((⟨wr.heap.size + 1, 0, none⟩ : Addr).add j) = some u from fun j u hu => by
        rw [Addr.add_lit, Nat.zero_add]
        exact cell_part hg2 (by simpa using hu))
      obtain ⟨i0, hi0, hz1, hz2, hz3⟩ := info_parts info_ints
      have HIz := Lib.hid hi0
      have HZ1 := Lib.hid hz1
      have HZ2 := Lib.hid hz2
      have HZ3 := Lib.hid hz3
      have HRw := Lib.hid (ownsRow_below HT.out.lv.row fun g hg => Below.block HA.out g (own_lt HT.out.lv.row hg).2)
      have HUl := Lib.hid (show us.length = ls.length by rw [HT.out.lv.len, HDl.out])
      have HSz := Lib.hid (Nat.le_trans HL.out.aft.size HA.out.size)
      have hfl := HS.out.fl
      clear hg1 hg2 ha1 ha2 hon hs1 hi0 hz1 hz2 hz3
      go_wp2_with (first | (at_builtin; refine wpList_append_lies _ rfl (.tmp 95) (.tmp 97) 24 rfl w.heap.size 22 i0 (.slice none 0 0) 1 24 Try.underlying24 HIz.out HZ1.out HZ2.out HZ3.out rfl (by decide) (.slice b1 ls.length d1) us.length us rfl HRw.out ⟨wr.heap.size + 1, 0, none⟩ 1 1 [.slice (some ⟨wr.heap.size, 0, none⟩) 1 1] rfl rfl HN.out (fun u hu => by simp at hu; subst hu; rfl) (by decide) (by have := HUl.out; unfold maxLen; omega) (by have := HUl.out; omega) HSz.out _ rfl ?_; intro gN cN wN k1 k2 k3 k4; clear hl0; have HF := Lib.hid (Fr.of_grown (S := fun b => (Value.slice b1 ls.length d1).ownBlock = some b) k2 fun k hk => hk); replace HL := Lib.hid ((HL.out.call HA.out).frO HRw.out (Nat.le_refl _) HF.out rfl); replace HT := Lib.hid (HT.out.snoc HA.out HOn.out (fun q hq => by cases hq; exact Nat.le_refl _) (by rw [List.length_append]; exact k1) HF.out); clear k1 k2 k3 k4) | (refine wpList_store_shpV rfl (.tmp 99) (.tmp 98) _ _ _ (.slice (some ⟨gN, 0, none⟩) (us.length + 1) cN) rfl rfl rfl rfl rfl (HL.out.get 0 rfl) ?_; intro wV b1 b2 b3; replace HT := Lib.hid (HT.out.stored (HL.out.get 0 rfl) (by decide) (by decide) b2.out); replace HL := Lib.hid (HL.out.store 0 rfl b1 b2 b3); clear b1 b2 b3; try simp only [List.nil_append, List.cons_append, List.set_cons_zero, List.set_cons_succ] at HL) | (refine wpList_load_rowG (by kernel_rfl) 26 (.tmp 2) rfl _ rfl _ _ _ _ (HL.out.get 0 rfl) Try.underlying26 rfl (shp_info _ _) ?_) | (refine wpList_store_shp rfl (.tmp 4) (.tmp 100) _ _ _ (.slice a2 (ids.length + 1) c2) (.slice (some ⟨gN, 0, none⟩) (us.length + 1) cN) rfl rfl rfl rfl rfl (HL.out.get 1 rfl) ?_; intro w9 b1 b2 b3; replace HT := Lib.hid (HT.out.stored (HL.out.get 1 rfl) (by decide) (by decide) b2.out); replace HL := Lib.hid (HL.out.store 1 rfl b1 b2 b3); clear b1 b2 b3; try simp only [List.nil_append, List.cons_append, List.set_cons_zero, List.set_cons_succ] at HL))
      refine bodyPost_ret (results_cell_tmp rfl _ _ _ 26 _ (0, 0) _ rfl (HL.out.get 1 rfl) Try.underlying26 rfl (shp_info _ _)) rfl ?_
      exact InsSays.good HE.out HI.out HV2.out HT.out HL.out.aft
end Go.Proofs.Ytpnckphfjcnooaa
