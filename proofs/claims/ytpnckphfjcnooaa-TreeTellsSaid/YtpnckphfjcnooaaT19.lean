/- Path and Spans of the document of law 10. -/
import Derived.Test.YtpnckphfjcnooaaT17
import Derived.Test.YtpnckphfjcnooaaT18
namespace Go.Proofs.Ytpnckphfjcnooaa
open Go Go.RowKit
set_option linter.unusedSimpArgs false
theorem wpList_fromI {ops : Array Oper} {rest : List Oper} {o : Oper} {a : Act} {w : World} {Q : Exit → Act → World → Prop} (hw : Region.wanted o (yielded ops a.tmps) = true) (x y : Operand) (ho : o.op = .slice 22 x (some y) none none) (ao : Option Addr) (len cap : Nat) (xs : List Int) (hx : a.eval x = .slice ao len cap) (n : Nat) (hy : a.eval y = .int .i64 (n : Int)) (wq : World) (hr : Rd wq (.slice ao len cap) (zv xs)) (hn : n ≤ xs.length)
    (h : ∀ ax cx, Hid (Rd wq (.slice ax (xs.length - n) cx) (zv (xs.drop n))) → wpList Try.prog ops Q rest (a.put o.dst (.slice ax (xs.length - n) cx)) w) : wpList Try.prog ops Q (o :: rest) a w := by
  obtain ⟨i0, hi0, hz1, hz2, hz3⟩ := info_parts info_int
  obtain ⟨ax, h1, h2⟩ := cut_from_ex (P := Try.prog) Try.underlying22 hi0 hz2 hr (n := n) (by rw [zv_length]; exact hn)
  have hl := hr.sl.1
  rw [zv_length] at hl
  subst hl
  have h3 := cut_from (P := Try.prog) Try.underlying22 (ao := ao) (len := xs.length) (cap := cap) (n := n) hn w hi0 hz2
  unfold wpList
  rw [if_pos hw]
  refine .inl (wp_noOut ?_)
  unfold Oper.wp execOp
  simp only [ho, hx, hy, Option.map_some, Option.map_none, h3, Sem.run_bind, Result.andThen_ok, Sem.run_pure]
  have h4 := hr.from (n := n) (by rw [zv_length]; exact hn)
  rw [zv_drop] at h4
  exact h _ _ (Lib.hid h4)
set_option maxRecDepth 100000 in
set_option maxHeartbeats 4000000 in
theorem rpath_any (vi vl : Value) (ids : List Int) (ls : List (List Int)) (id : Int) (w : World) (hi : Rd w vi (zv ids)) (hl : RdLs w vl ls) (hs : Small ids ls) :
    Calls Try.prog 29 #[.agg (shpL vi vl).toArray, .int .i64 id] w fun e w' => ∃ v, e = .returned (.tuple #[v, .int .i64 (pathE ids ls id)]) ∧ Rd w' v (zv (pathV ids ls id)) ∧ Aft w w' := by
  have HCk := Lib.hid (fun (wx : World) (ha : Aft w wx) => rcheck_any vi vl ids ls wx (hi.grow ha) (hl.aft ha) hs)
  have HFd := Lib.hid (fun (wx : World) (ha : Aft w wx) => rfind_any vi vl ids id wx (hi.grow ha) hs.fi)
  have HLs := Lib.hid hl
  have HS := Lib.hid hs
  obtain ⟨ao, cap, rfl, -, -⟩ := hi.numS
  obtain ⟨bo, dap, rfl, -⟩ := hl.shape
  have HL := Lib.hid (Led.start w)
  clear hi hl hs
  go_enter Try.func29, Try.ntmps29
  go_wp2_with (first | (refine wpList_boxO rfl 26 (.tmp 0) rfl (.agg (shpL (.slice ao ids.length cap) (.slice bo ls.length dap)).toArray) rfl (.cells (shpL (.slice ao ids.length cap) (.slice bo ls.length dap)).toArray 26) (box_shp _) ?_; intro w' aa gg zz; replace HL := Lib.hid (HL.out.alloc aa gg.out); clear aa gg zz; try simp only [List.nil_append, List.cons_append, List.set_cons_zero, List.set_cons_succ] at HL) | (refine wpList_load_rowG (by kernel_rfl) 26 (.tmp 2) rfl _ rfl _ _ _ _ (HL.out.get 0 rfl) Try.underlying26 rfl (shp_info _ _) ?_))
  refine (HCk.out _ HL.out.aft).mono ?_
  rintro e w2 ⟨rfl, h2⟩
  replace HL := Lib.hid (HL.out.call h2)
  clear h2 HCk
  by_cases hok : OkT ids ls
  rotate_left
  · have HE := Lib.hid (show pathE ids ls id = 1 from if_pos hok)
    rw [chk_bad hok]
    go_wp2_with fail
    go_ret2
    exact ⟨_, by rw [HE.out]; rfl, by unfold pathV; rw [HE.out]; exact Rd.nil _, HL.out.aft⟩
  rw [chkT_zero.2 hok]
  have HId := Lib.hid (show pathE ids ls id = if id ∈ ids then 0 else 6 from if_neg fun q => q hok)
  have HOk := Lib.hid hok
  clear hok
  go_wp2_with (first | (refine wpList_load_rowG (by kernel_rfl) 26 (.tmp 2) rfl _ rfl _ _ _ _ (HL.out.get 0 rfl) Try.underlying26 rfl (shp_info _ _) ?_))
  refine (HFd.out _ HL.out.aft).mono ?_
  rintro e w3 ⟨rfl, h3⟩
  replace HL := Lib.hid (HL.out.call h3)
  clear h3 HFd
  by_cases hin : id ∈ ids
  rotate_left
  · have HE := Lib.hid (show pathE ids ls id = 6 by rw [HId.out, if_neg hin])
    rw [decide_eq_false hin]
    clear hin
    go_wp2_with fail
    go_ret2
    exact ⟨_, by rw [HE.out]; rfl, by unfold pathV; rw [HE.out]; exact Rd.nil _, HL.out.aft⟩
  rw [decide_eq_true hin]
  have HE := Lib.hid (show pathE ids ls id = 0 by rw [HId.out, if_pos hin])
  have HV := Lib.hid (show pathV ids ls id = pathL ls (cnt ids id : Nat) from if_pos HE.out)
  have HCn := Lib.hid (cnt_lt HOk.out.1.2.2 hin)
  clear hin HId
  have hl0 := shp_l (HL.out.get 0 rfl)
  have hfl := HS.out.fl
  go_wp2_with fail
  clear hl0
  obtain ⟨P, hP⟩ : ∃ P, P = pathL ls (cnt ids id : Nat) := ⟨_, rfl⟩
  have HP := Lib.hid hP
  rw [← hP] at HV
  clear hP
  go_loopw [6, 8, 26] (fun v6 v8 v26 wr => ∃ (k a m : Nat) (done : List Int) (au : Option Addr) (cu : Nat), k ≤ ls.length ∧ v26 = .int .i64 (k : Int) ∧ v6 = .int .i64 (a : Int) ∧ v8 = .slice au k cu ∧ done.length = k ∧ P = done ++ pathL (ls.drop k) (a : Nat) ∧ okLv (m : Nat) (ls.drop k) = true ∧ a < m ∧ m ≤ 1048576 ∧ OwnI wr w.heap.size (.slice au k cu) done ∧ Led w wr [(w.heap.size, .cells (shpL (.slice ao ids.length cap) (.slice bo ls.length dap)).toArray 26)]) (fun _ _ v _ => ls.length - (intOf v).toNat)
  case atStart => exact ⟨0, cnt ids id, ids.length, [], none, 0, by omega, rfl, rfl, rfl, rfl, HP.out, HOk.out.2, HCn.out, HS.out.fi, OwnI.nil _ _, HL.out⟩
  case round =>
    clear HL
    obtain ⟨k, a, m, done, au, cu, hk, rfl, rfl, rfl, hdl, hps, hok, han, hm, hO, hL⟩ := hrel
    have HL := Lib.hid hL
    have HO := Lib.hid hO
    have HDl := Lib.hid hdl
    have HPs := Lib.hid hps
    have HOl := Lib.hid hok
    clear hL hO hdl hps hok
    by_cases hlt : k < ls.length
    · have hlt' : (k : Int) < (ls.length : Nat) := by omega
      obtain ⟨b1, o1, c1, x, he, hcx, hrx⟩ := HLs.out.cell hlt
      injection he with he1 he2 he3
      subst he1 he3
      have hc := hcx _ HL.out.aft
      have hfv := HS.out.fv _ (getD_mem hlt)
      have hd := drop_cons ls k hlt
      rw [hd] at HPs HOl
      obtain ⟨a1, c1, rfl, -, -⟩ := hrx.numS
      generalize ls.getD k [] = l at *
      generalize hrq : ls.drop (k + 1) = rest at *
      have HRq := Lib.hid hrq
      obtain ⟨h2n, hl23, hsum, hokr⟩ := okLv_cons HOl.out
      have HOr := Lib.hid hokr
      have HX := Lib.hid (hrx.grow HL.out.aft)
      have HGl := Lib.hid (fun g => grp_lt (l := l) (a := (a : Nat)) (g := g) (pos_of hl23) (by omega) (by omega))
      have HS2 := Lib.hid (fun g (hg : g < l.length) => frm_succ hg)
      have HFb := Lib.hid (frm_nonneg (pos_of hl23))
      have HPc := Lib.hid (show pathL (l :: rest) (a : Nat) = (grpG l (a : Nat) : Int) :: pathL rest (grpG l (a : Nat) : Nat) from rfl)
      have HGq := Lib.hid (grp_spec l (a : Nat) (by omega) (by omega)).1
      generalize grpG l (a : Nat) = gq at *
      clear hcx hrx he2 hd hrq hl23 hsum hokr HOl
      obtain ⟨W5, hW5⟩ : ∃ W5, W5 = wr := ⟨_, rfl⟩
      subst hW5
      go_wp2_with fail
      clear hc
      go_loopw [6, 11] (fun v6 v11 wr => ∃ g q : Nat, g ≤ gq ∧ v11 = .int .i64 (g : Int) ∧ v6 = .int .i64 (q : Int) ∧ (q : Int) = (a : Int) - frm l g ∧ wr = W5) (fun _ v _ => l.length - (intOf v).toNat)
      case atStart => exact ⟨0, a, Nat.zero_le _, rfl, rfl, by rw [frm_zero]; omega, rfl⟩
      case round =>
        obtain ⟨g, q, hg, rfl, rfl, hq, rfl⟩ := hrel
        obtain ⟨q1, q2, q3, q4⟩ := HGl.out g hg
        obtain ⟨b, o, rfl, -, -⟩ := HX.out.some_of (by rw [zv_length]; omega)
        have hc := HX.out.num_at q2
        have hss := HS2.out g q2
        have hglt : (g : Int) < (l.length : Nat) := by omega
        have hfb := HFb.out g
        have HQ := Lib.hid hq
        have hqm : (q : Int) ≤ 1048576 := by omega
        have hxm : l.getD g 0 ≤ (q : Int) → frm l (g + 1) ≤ (a : Int) := fun z => by omega
        have hxn : ¬ l.getD g 0 ≤ (q : Int) → (a : Int) < frm l (g + 1) := fun z => by omega
        have HXm := Lib.hid (fun z => q3 (hxm z))
        have HXn := Lib.hid (fun z => q4 (hxn z))
        have HSs := Lib.hid hss
        clear q1 q3 q4 hss hxm hxn hq
        by_cases hqx : l.getD g 0 ≤ (q : Int)
        · obtain ⟨q5, hq5⟩ : ∃ q5 : Nat, (q : Int) - l.getD g 0 = (q5 : Int) := ⟨((q : Int) - l.getD g 0).toNat, by omega⟩
          have H5 := Lib.hid (HXm.out hqx)
          have HQ5 := Lib.hid hq5
          have hw5 : wrap64 ((q : Int) - l.getD g 0) = (q5 : Int) := by rw [hq5]; unfold wrap64; have := HFb.out (g + 1); have := HQ.out; have := HSs.out; omega
          have HG5 := Lib.hid (show (q5 : Int) = (a : Int) - frm l (g + 1) by have := HQ.out; have := HSs.out; omega)
          have HW5 := Lib.hid hw5
          clear hq5 HXm HXn HQ HSs hfb HQ5 hw5
          generalize l.getD g 0 = x at *
          go_wp2_with fail
          go_roundw
          case rel => exact ⟨g + 1, q5, H5.out, by go_num, by first | rfl | rw [HW5.out], HG5.out, by trivial⟩
          case measure => simp [intOf]; omega
        · obtain rfl := HXn.out hqx
          have hxl := HDl.out
          clear HXm HXn HQ HSs hfb
          generalize l.getD g 0 = x at *
          go_wp2_with (first | (refine wpList_dstT 46 rfl ?_; refine wpList_intSlice (by kernel_rfl) (.tmp 45) (g : Int) rfl rfl ?_; intro wJ k1 k2; have HG := Lib.hid k2.out; have HAj := Lib.hid k1; have HUj := Lib.hid (HO.out.aft k1); have HSj := Lib.hid (Nat.le_of_lt (heap_lt k2.out)); replace HL := Lib.hid (HL.out.call k1); clear k1 k2 hc) | (at_builtin; refine wpList_snocI rfl (.tmp 44) (.tmp 46) rfl w.heap.size _ done rfl HUj.out wr.heap.size (g : Int) rfl HG.out (by omega) HL.out.aft.size ?_; intro g9 c9 w9 k1 k2 k3; have HU9 := Lib.hid k1.out; replace HL := Lib.hid (HL.out.frO HUj.out (Nat.le_refl _) k2.out rfl); clear k1 k2 k3))
          go_roundw
          case rel =>
            refine ⟨k + 1, g, l.length, done ++ [(g : Int)], some ⟨g9, 0, none⟩, c9, by omega, by go_num, rfl, rfl, by rw [List.length_append, HDl.out]; rfl, ?_, ?_, HGq.out, hfv, by have h := HU9.out; rwa [HDl.out] at h, HL.out⟩
            · rw [HPs.out, HPc.out, HRq.out, List.append_assoc]
              rfl
            · rw [HRq.out]
              exact HOr.out
          case measure => simp [intOf]; omega
    · obtain rfl : k = ls.length := by omega
      have hlt' : ¬ ((ls.length : Nat) : Int) < (ls.length : Nat) := by omega
      rw [List.drop_length] at HPs
      have HPd := Lib.hid (show pathV ids ls id = done by rw [HV.out, HPs.out]; exact List.append_nil _)
      go_wp2_with fail
      go_ret2
      exact ⟨_, by rw [HE.out]; rfl, by rw [HPd.out]; exact HO.out.rd, HL.out.aft⟩
def nn (l : List Int) : Prop := ∀ x ∈ l, 0 ≤ x
theorem nn_sum : ∀ {l : List Int}, nn l → 0 ≤ l.sum
  | [], _ => by simp
  | x :: l, h => by
    have h1 := h x (by simp)
    have h2 := nn_sum (l := l) fun y hy => h y (by simp [hy])
    rw [List.sum_cons]
    omega
theorem nn_take {l : List Int} (h : nn l) (i : Nat) : nn (l.take i) := fun x hx => h x (List.mem_of_mem_take hx)
theorem nn_drop {l : List Int} (h : nn l) (i : Nat) : nn (l.drop i) := fun x hx => h x (List.mem_of_mem_drop hx)
theorem frm_nn {l : List Int} (h : nn l) (i : Nat) : 0 ≤ frm l i ∧ frm l i ≤ l.sum := by
  have h1 := nn_sum (nn_take h i)
  have h2 := nn_sum (nn_drop h i)
  have h3 : (l.take i).sum + (l.drop i).sum = l.sum := by rw [← List.sum_append, List.take_append_drop]
  unfold frm
  omega
theorem drop_sum {l : List Int} (h : nn l) (i : Nat) : (l.drop i).sum ≤ l.sum := by
  have h1 := nn_sum (nn_take h i)
  have h3 : (l.take i).sum + (l.drop i).sum = l.sum := by rw [← List.sum_append, List.take_append_drop]
  omega
theorem spW_nn : ∀ (l : List Int) {wide : List Int}, nn wide → nn (spW l wide)
  | [], _, _ => fun x hx => by simp [spW] at hx
  | n :: l, wide, h => fun x hx => by
    rw [spW, List.mem_cons] at hx
    rcases hx with rfl | hx
    · exact nn_sum (nn_take h _)
    · exact spW_nn l (nn_drop h _) x hx
theorem spW_sum {l wide : List Int} (hp : pos l) (hs : l.sum = (wide.length : Nat)) : (spW l wide).sum = wide.sum := by
  have h := spW_take l wide l.length hp
  rw [List.take_of_length_le (by rw [spW_length]; exact Nat.le_refl _), frm_all, hs, Int.toNat_natCast, List.take_length] at h
  exact h
theorem wideL_snoc (n : Nat) (ls : List (List Int)) (l : List Int) : wideL n (ls ++ [l]) = spW l (wideL n ls) := by
  unfold wideL
  rw [List.foldl_append]
  rfl
theorem pre_length (F : List Int) : (pre F).length = F.length + 1 := by simp [pre]
theorem pre_snoc {F : List Int} {i : Nat} (h : i < F.length) : (pre F).take (i + 1 + 1) = (pre F).take (i + 1) ++ [frm F (i + 1)] := by
  rw [List.take_succ_eq_append_getElem (by rw [pre_length]; omega)]
  congr 2
  have := pre_at (wide := F) (j := i + 1) (by omega)
  rw [List.getD_eq_getElem?_getD, List.getElem?_eq_getElem (by rw [pre_length]; omega)] at this
  exact this
theorem pre_one (F : List Int) : (pre F).take 1 = [0] := by
  unfold pre
  rw [List.range_succ_eq_map]
  simp
theorem pre_last {F : List Int} {i : Nat} (h : i ≤ F.length) : ((pre F).take (i + 1)).getD i 0 = frm F i := by
  rw [List.getD_eq_getElem?_getD, List.getElem?_take_of_lt (Nat.lt_succ_self i), ← List.getD_eq_getElem?_getD, pre_at h]
  rfl
set_option maxRecDepth 100000 in
set_option maxHeartbeats 8000000 in
theorem rspans_any (vi vl : Value) (ids : List Int) (ls : List (List Int)) (level : Int) (w : World) (hi : Rd w vi (zv ids)) (hl : RdLs w vl ls) (hs : Small ids ls) :
    Calls Try.prog 31 #[.agg (shpL vi vl).toArray, .int .i64 level] w fun e w' => ∃ v, e = .returned (.tuple #[v, .int .i64 (spanE ids ls level)]) ∧ Rd w' v (zv (spanV ids ls level)) ∧ Aft w w' := by
  have HCk := Lib.hid (fun (wx : World) (ha : Aft w wx) => rcheck_any vi vl ids ls wx (hi.grow ha) (hl.aft ha) hs)
  have HLs := Lib.hid hl
  have HS := Lib.hid hs
  obtain ⟨ao, cap, rfl, -, -⟩ := hi.numS
  obtain ⟨bo, dap, rfl, -⟩ := hl.shape
  have HDp := Lib.hid (show ls.length ≤ dap ∧ dap ≤ 9223372036854775807 by
    obtain ⟨vs, ⟨a9, c9, he, r1, r2, -, -⟩, h2, -⟩ := hl
    injection he with e1 e2 e3
    omega)
  have HL := Lib.hid (Led.start w)
  clear hi hl hs
  go_enter Try.func31, Try.ntmps31
  go_wp2_with (first | (refine wpList_boxO rfl 26 (.tmp 0) rfl (.agg (shpL (.slice ao ids.length cap) (.slice bo ls.length dap)).toArray) rfl (.cells (shpL (.slice ao ids.length cap) (.slice bo ls.length dap)).toArray 26) (box_shp _) ?_; intro w' aa gg zz; replace HL := Lib.hid (HL.out.alloc aa gg.out); clear aa gg zz; try simp only [List.nil_append, List.cons_append, List.set_cons_zero, List.set_cons_succ] at HL) | (refine wpList_load_rowG (by kernel_rfl) 26 (.tmp 2) rfl _ rfl _ _ _ _ (HL.out.get 0 rfl) Try.underlying26 rfl (shp_info _ _) ?_))
  refine (HCk.out _ HL.out.aft).mono ?_
  rintro e w2 ⟨rfl, h2⟩
  replace HL := Lib.hid (HL.out.call h2)
  clear h2 HCk
  by_cases hok : OkT ids ls
  rotate_left
  · have HE := Lib.hid (show spanE ids ls level = 1 from if_pos (.inl hok))
    rw [chk_bad hok]
    go_wp2_with fail
    go_ret2
    exact ⟨_, by rw [HE.out]; rfl, by unfold spanV; rw [HE.out]; exact Rd.nil _, HL.out.aft⟩
  rw [chkT_zero.2 hok]
  have HOk := Lib.hid hok
  clear hok
  by_cases h0 : level < 0
  · have HE := Lib.hid (show spanE ids ls level = 1 from if_pos (.inr (.inl h0)))
    go_wp2_with fail
    go_ret2
    exact ⟨_, by rw [HE.out]; rfl, by unfold spanV; rw [HE.out]; exact Rd.nil _, HL.out.aft⟩
  by_cases h1 : (ls.length : Int) ≤ level
  · have HE := Lib.hid (show spanE ids ls level = 1 from if_pos (.inr (.inr h1)))
    have hl0 := shp_l (HL.out.get 0 rfl)
    go_wp2_with fail
    go_ret2
    exact ⟨_, by rw [HE.out]; rfl, by unfold spanV; rw [HE.out]; exact Rd.nil _, HL.out.aft⟩
  have HE := Lib.hid (show spanE ids ls level = 0 from if_neg (by
    rintro (q | q | q)
    · exact q HOk.out
    · exact h0 q
    · exact h1 q))
  have HV := Lib.hid (show spanV ids ls level = spanL ids.length (ls.take (level.toNat + 1)) from if_pos HE.out)
  have hl0 := shp_l (HL.out.get 0 rfl)
  have hi0 := shp_i (HL.out.get 0 rfl)
  have hfi := HS.out.fi
  go_wp2_with fail
  clear hl0 hi0
  obtain ⟨K, rfl⟩ : ∃ K : Nat, level = (K : Int) := ⟨level.toNat, by omega⟩
  rw [Int.toNat_natCast] at HV
  have HK := Lib.hid (show K < ls.length by omega)
  rw [show decide ((K : Int) < 0) = false from decide_eq_false (by omega), show decide ((ls.length : Int) ≤ (K : Int)) = false from decide_eq_false (by omega), show (false || false) = false from rfl]
  clear h0 h1
  go_loopw [6, 35] (fun v6 v35 wr => ∃ (i : Nat) (ag : Option Addr) (cg : Nat), i ≤ ids.length ∧ v35 = .int .i64 (i : Int) ∧ v6 = .slice ag i cg ∧ OwnI wr w.heap.size (.slice ag i cg) (List.replicate i 1) ∧ Led w wr [(w.heap.size, .cells (shpL (.slice ao ids.length cap) (.slice bo ls.length dap)).toArray 26)]) (fun _ v _ => ids.length - (intOf v).toNat)
  case atStart => exact ⟨0, none, 0, by omega, rfl, rfl, OwnI.nil _ _, HL.out⟩
  case round =>
    clear HL
    obtain ⟨i, ag, cg, hi, rfl, rfl, hU, hL⟩ := hrel
    have HL := Lib.hid hL
    have HU := Lib.hid hU
    clear hL hU
    by_cases hlt : i < ids.length
    · have hlt' : (i : Int) < (ids.length : Nat) := by omega
      have hil : i ≤ 1048576 := by omega
      have hxl : (List.replicate i (1 : Int)).length = i := List.length_replicate ..
      have HRp := Lib.hid (show List.replicate i (1 : Int) ++ [1] = List.replicate (i + 1) 1 from List.replicate_succ'.symm)
      generalize List.replicate i (1 : Int) = xs at *
      have HXl := Lib.hid hxl
      go_wp2_with (first | (refine wpList_dstT 38 rfl ?_; refine wpList_intSlice (by kernel_rfl) (.const (.int .i64 1)) 1 rfl rfl ?_; intro wJ k1 k2; have HG := Lib.hid k2.out; have HUj := Lib.hid (HU.out.aft k1); replace HL := Lib.hid (HL.out.call k1); clear k1 k2) | (at_builtin; refine wpList_snocI rfl (.tmp 37) (.tmp 38) rfl w.heap.size _ xs rfl HUj.out wr.heap.size 1 rfl HG.out (by omega) HL.out.aft.size ?_; intro g9 c9 w9 k1 k2 k3; have HU9 := Lib.hid k1.out; replace HL := Lib.hid (HL.out.frO HUj.out (Nat.le_refl _) k2.out rfl); clear k1 k2 k3))
      go_roundw
      case rel => exact ⟨i + 1, _, c9, by omega, by go_num, rfl, by have h := HU9.out; rwa [HXl.out, HRp.out] at h, HL.out⟩
      case measure => simp [intOf]; omega
    · obtain rfl : i = ids.length := by omega
      have hlt' : ¬ ((ids.length : Nat) : Int) < (ids.length : Nat) := by omega
      have HF0 := Lib.hid (show Rd wr (.slice ag ids.length cg) (zv (List.replicate ids.length 1)) from HU.out.rd)
      clear HU
      obtain ⟨W5, hW5⟩ : ∃ W5, W5 = wr := ⟨_, rfl⟩
      subst hW5
      obtain ⟨b1, o1, c1, x1, he, -, -⟩ := HLs.out.cell (i := 0) (by have := HK.out; omega)
      injection he with he1 he2 he3
      subst he1 he3
      have hl0 := shp_l (HL.out.get 0 rfl)
      have hKi : (K : Int) + 1 ≤ (dap : Nat) := by have := HK.out; have := HDp.out; omega
      have hKm : (K : Int) < 1048576 := by have := HK.out; have := HS.out.fl; omega
      go_wp2_with fail
      clear hl0
      go_loopw [6, 47] (fun v6 v47 wr => ∃ (k : Nat) (F : List Int) (af : Option Addr) (cf : Nat), k ≤ K + 1 ∧ v47 = .int .i64 (k : Int) ∧ v6 = .slice af F.length cf ∧ F = wideL ids.length (ls.take k) ∧ Rd wr (.slice af F.length cf) (zv F) ∧ nn F ∧ F.sum = (ids.length : Nat) ∧ okLv (F.length : Nat) (ls.drop k) = true ∧ F.length ≤ 1048576 ∧ Led w wr [(w.heap.size, .cells (shpL (.slice ao ids.length cap) (.slice (some ⟨b1, o1, none⟩) ls.length dap)).toArray 26)]) (fun _ v _ => K + 1 - (intOf v).toNat)
      case atStart =>
        have h1 : (List.replicate ids.length (1 : Int)).length = ids.length := List.length_replicate ..
        exact ⟨0, List.replicate ids.length 1, _, _, by omega, rfl, by rw [h1], rfl, by rw [h1]; exact HF0.out, fun x hx => by rw [(List.mem_replicate.1 hx).2]; decide, by simp, by rw [h1]; exact HOk.out.2, by rw [h1]; exact HS.out.fi, HL.out⟩
      case round =>
        clear HL HF0
        obtain ⟨k, F, af, cf, hk, rfl, rfl, hF, hR, hN, hSm, hok, hm, hL⟩ := hrel
        have HL := Lib.hid hL
        have HR := Lib.hid hR
        have HF := Lib.hid hF
        have HNn := Lib.hid hN
        have HFs := Lib.hid hSm
        have HOl := Lib.hid hok
        clear hL hR hF hN hSm hok
        by_cases hlt : k < K + 1
        · have hlt' : (k : Int) < (K : Int) + 1 := by omega
          have hkl : k < ls.length := by have := HK.out; omega
          obtain ⟨b2, o2, c2, x, he, hcx, hrx⟩ := HLs.out.cell hkl
          injection he with he4 he5 he6
          cases he4
          have hc := hcx _ HL.out.aft
          have hfv := HS.out.fv _ (getD_mem hkl)
          have hd := drop_cons ls k hkl
          have HTk := Lib.hid (show ls.take (k + 1) = ls.take k ++ [ls.getD k []] by
            rw [List.take_add_one, List.getD_eq_getElem?_getD, List.getElem?_eq_getElem hkl]
            rfl)
          rw [hd] at HOl
          obtain ⟨a3, c3, rfl, -, -⟩ := hrx.numS
          have HX := Lib.hid hrx
          generalize ls.getD k [] = l at *
          obtain ⟨h2n, hl23, hsum, hokr⟩ := okLv_cons HOl.out
          have H23 := Lib.hid hl23
          have HSm := Lib.hid hsum
          have HOr := Lib.hid hokr
          obtain ⟨W6, hW6⟩ : ∃ W6, W6 = wr := ⟨_, rfl⟩
          subst hW6
          clear hcx hrx hd he5 he6 HOl hl23 hsum hokr
          go_wp2_with fail
          clear hc
          have HSp := Lib.hid (fun j (hj : j ≤ l.length) => show 0 ≤ frm l j ∧ frm l j ≤ (F.length : Int) from by
            have := frm_le (pos_of H23.out) hj
            have := frm_nonneg (pos_of H23.out) j
            have := HSm.out
            omega)
          go_loopw [6, 9, 53] (fun v6 v9 v53 wr => ∃ (j q : Nat) (done : List Int) (aw : Option Addr) (cw : Nat) (au : Option Addr) (cu : Nat), j ≤ l.length ∧ v53 = .int .i64 (j : Int) ∧ (q : Int) = frm l j ∧ v6 = .slice aw (F.length - q) cw ∧ Rd W6 (.slice aw (F.length - q) cw) (zv (F.drop q)) ∧ v9 = .slice au j cu ∧ done.length = j ∧ spW l F = done ++ spW (l.drop j) (F.drop q) ∧ OwnI wr W6.heap.size (.slice au j cu) done ∧ Aft W6 wr) (fun _ _ v _ => l.length - (intOf v).toNat)
          case atStart => exact ⟨0, 0, [], af, cf, none, 0, by omega, rfl, rfl, rfl, HR.out, rfl, rfl, rfl, OwnI.nil _ _, Aft.refl _⟩
          case round =>
            obtain ⟨j, q, done, aw, cw, au, cu, hj, rfl, hq, rfl, hRw, rfl, hdl, hsp, hU, hA⟩ := hrel
            have HU := Lib.hid hU
            have HA := Lib.hid hA
            have HQ := Lib.hid hq
            have HRw := Lib.hid hRw
            have HDl := Lib.hid hdl
            have HSw := Lib.hid hsp
            clear hU hA hq hRw hdl hsp
            by_cases hjt : j < l.length
            · have hjt' : (j : Int) < (l.length : Nat) := by omega
              obtain ⟨g3, o3, rfl, -, -⟩ := HX.out.some_of (by rw [zv_length]; omega)
              have hc := (HX.out.grow (Aft.trans HL.out.aft HA.out)).num_at hjt
              have hfs := frm_succ hjt
              obtain ⟨p1, p2⟩ := HSp.out (j + 1) hjt
              have hxy := getD_of H23.out hjt
              obtain ⟨x, hx⟩ : ∃ x : Nat, l.getD j 0 = (x : Int) := ⟨(l.getD j 0).toNat, by omega⟩
              have HDr := Lib.hid (show l.drop j = (x : Int) :: l.drop (j + 1) by
                rw [List.drop_eq_getElem_cons hjt, ← hx, List.getD_eq_getElem?_getD, List.getElem?_eq_getElem hjt]
                rfl)
              rw [hx] at hc hfs hxy
              have hqx : q + x ≤ F.length := by have := HQ.out; omega
              have HQ2 := Lib.hid (show ((q + x : Nat) : Int) = frm l (j + 1) by have := HQ.out; omega)
              have hwc := HRw.out.sl
              rw [zv_length, List.length_drop] at hwc
              have hxc : (x : Int) ≤ (cw : Nat) := by omega
              have hxl : x ≤ F.length - q := by omega
              have hx3 : x ≤ 3 := by omega
              have HGn := Lib.hid (nn_drop HNn.out q)
              have HGs := Lib.hid (show (F.drop q).sum ≤ 1048576 by have := drop_sum HNn.out q; have := HFs.out; omega)
              have hGl : (F.drop q).length = F.length - q := List.length_drop ..
              have HSc := Lib.hid (show spW ((x : Int) :: l.drop (j + 1)) (F.drop q) = ((F.drop q).take x).sum :: spW (l.drop (j + 1)) (F.drop (q + x)) by
                rw [spW, Int.toNat_natCast, List.drop_drop])
              have HDd := Lib.hid (show (F.drop q).drop x = F.drop (q + x) by rw [List.drop_drop])
              have HLn := Lib.hid (show F.length - q - x = F.length - (q + x) by omega)
              have hxp : 0 < (F.drop q).length := by omega
              clear hfs p1 p2 hx hwc
              generalize F.drop q = G at *
              obtain ⟨g4, o4, rfl, -, -⟩ := HRw.out.some_of (by rw [zv_length]; omega)
              obtain ⟨W7, hW7⟩ : ∃ W7, W7 = wr := ⟨_, rfl⟩
              subst hW7
              have HGl := Lib.hid hGl
              clear hGl
              generalize F.length - q = nq at *
              go_wp2_with fail
              clear hc
              go_loopw [12, 61] (fun v12 v61 wr => ∃ i : Nat, i ≤ x ∧ v61 = .int .i64 (i : Int) ∧ v12 = .int .i64 (frm G i) ∧ wr = W7) (fun _ v _ => x - (intOf v).toNat)
              case atStart => exact ⟨0, by omega, rfl, rfl, rfl⟩
              case round =>
                obtain ⟨i, hi, rfl, rfl, rfl⟩ := hrel
                by_cases hit : i < x
                · have hit' : (i : Int) < (x : Int) := by omega
                  have hiG : i < G.length := by have := HGl.out; omega
                  have hc := (HRw.out.grow HA.out).num_at hiG
                  have hfs := frm_succ hiG
                  have hfb := frm_nn HGn.out i
                  have hfb1 := frm_nn HGn.out (i + 1)
                  have hgs := HGs.out
                  have hw : wrap64 (frm G i + G.getD i 0) = frm G (i + 1) := by rw [← hfs]; unfold wrap64; omega
                  have HW := Lib.hid hw
                  clear hfs hfb1 hw
                  generalize G.getD i 0 = y at *
                  go_wp2_with fail
                  go_roundw
                  case rel => exact ⟨i + 1, by omega, by go_num, by rw [HW.out], by trivial⟩
                  case measure => simp [intOf]; omega
                · obtain rfl : i = x := by omega
                  have hit' : ¬ (i : Int) < (i : Int) := by omega
                  have HGf := Lib.hid (show frm G i = (G.take i).sum from rfl)
                  have hdl := HDl.out
                  generalize frm G i = sm at *
                  have hxg : i ≤ G.length := by have := HGl.out; omega
                  go_wp2_with (first | (refine wpList_dstT 71 rfl ?_; refine wpList_intSlice (by kernel_rfl) (.tmp 70) sm rfl rfl ?_; intro wJ k1 k2; have HG := Lib.hid k2.out; have HAw := Lib.hid k1; have HAj := Lib.hid (Aft.trans HA.out k1); have HUj := Lib.hid (HU.out.aft k1); have HSj := Lib.hid (Nat.le_of_lt (heap_lt k2.out)); clear k1 k2) | (at_builtin; refine wpList_snocI rfl (.tmp 69) (.tmp 71) rfl W6.heap.size _ done rfl HUj.out wr.heap.size sm rfl HG.out (by omega) (Nat.le_trans HA.out.size HSj.out) ?_; intro g9 c9 w9 k1 k2 k3; have HU9 := Lib.hid k1.out; have HF9 := Lib.hid k2.out; have HA9 := Lib.hid (aft_fr HAj.out HUj.out (Nat.le_refl _) k2.out); clear k1 k2 k3) | (refine wpList_dstT 75 rfl ?_; refine wpList_fromI (by kernel_rfl) (.tmp 73) (.tmp 74) rfl _ _ _ G rfl i rfl W6 HRw.out hxg ?_; intro ax cx k1; have HR9 := Lib.hid k1.out; clear k1))
                  go_roundw
                  case rel =>
                    refine ⟨j + 1, q + i, done ++ [sm], ax, cx, some ⟨g9, 0, none⟩, c9, by omega, by go_num, HQ2.out, ?_, ?_, rfl, by rw [List.length_append, HDl.out]; rfl, ?_, by have h := HU9.out; rwa [HDl.out] at h, HA9.out⟩
                    · rw [HGl.out, HLn.out]
                    · have h := HR9.out
                      rwa [HGl.out, HLn.out, HDd.out] at h
                    · rw [HSw.out, HDr.out, HSc.out, HGf.out, List.append_assoc]
                      rfl
                  case measure => simp [intOf]; omega
            · obtain rfl : j = l.length := by omega
              have hjt' : ¬ ((l.length : Nat) : Int) < (l.length : Nat) := by omega
              have HSd := Lib.hid (show spW l F = done by rw [HSw.out, List.drop_length]; exact List.append_nil _)
              have hWl : (spW l F).length = l.length := spW_length l F
              have HR2 := Lib.hid (show Rd wr (.slice au l.length cu) (zv (spW l F)) by rw [HSd.out]; exact HU.out.rd)
              have HL2 := Lib.hid (HL.out.call HA.out)
              have HF2 := Lib.hid (show spW l F = wideL ids.length (ls.take (k + 1)) by rw [HTk.out, wideL_snoc, ← HF.out])
              have HN2 := Lib.hid (spW_nn l HNn.out)
              have HS2 := Lib.hid (show (spW l F).sum = (ids.length : Nat) by rw [spW_sum (pos_of H23.out) HSm.out]; exact HFs.out)
              have HWl := Lib.hid hWl
              clear HL HU HNn HFs hWl
              go_wp2_with fail
              go_roundw
              case rel => exact ⟨k + 1, spW l F, au, cu, by omega, by go_num, by rw [HWl.out], HF2.out, by rw [HWl.out]; exact HR2.out, HN2.out, HS2.out, by rw [HWl.out]; exact HOr.out, by rw [HWl.out]; exact hfv, HL2.out⟩
              case measure => simp [intOf]; omega
        · obtain rfl : k = K + 1 := by omega
          have hlt' : ¬ ((K : Int) + 1) < (K : Int) + 1 := by omega
          obtain ⟨W6, hW6⟩ : ∃ W6, W6 = wr := ⟨_, rfl⟩
          subst hW6
          have HVp := Lib.hid (show spanV ids ls (K : Int) = pre F by rw [HV.out, HF.out, wide_span HOk.out.2])
          go_wp2_with (first | (refine wpList_dstT 79 rfl ?_; refine wpList_intSlice (by kernel_rfl) (.const (.int .i64 0)) 0 rfl rfl ?_; intro wI q1 q2; have HA := Lib.hid q1; have HU := Lib.hid (show OwnI wI W6.heap.size (.slice (some ⟨W6.heap.size, 0, none⟩) 1 1) ((pre F).take 1) from by rw [pre_one]; exact one_own q2.out (Nat.le_refl _)); clear q1 q2))
          go_loopw [15, 82] (fun v15 v82 wr => ∃ (i g c : Nat), i ≤ F.length ∧ v82 = .int .i64 (i : Int) ∧ v15 = .slice (some ⟨g, 0, none⟩) (i + 1) c ∧ OwnI wr W6.heap.size (.slice (some ⟨g, 0, none⟩) (i + 1) c) ((pre F).take (i + 1)) ∧ Aft W6 wr) (fun _ v _ => F.length - (intOf v).toNat)
          case atStart => exact ⟨0, _, _, by omega, rfl, rfl, HU.out, HA.out⟩
          case round =>
            clear HU HA
            obtain ⟨i, g, c, hi, rfl, rfl, hU, hA⟩ := hrel
            have HU := Lib.hid hU
            have HA := Lib.hid hA
            clear hU hA
            by_cases hit : i < F.length
            · have hit' : (i : Int) < (F.length : Nat) := by omega
              obtain ⟨g4, o4, rfl, -, -⟩ := HR.out.some_of (by rw [zv_length]; omega)
              have hc := (HR.out.grow HA.out).num_at hit
              have hcl := HU.out.rd.num_at (i := i) (by rw [List.length_take, pre_length]; omega)
              rw [pre_last (by omega), Nat.zero_add] at hcl
              have hfs := frm_succ hit
              have hfb := frm_nn HNn.out i
              have hfb1 := frm_nn HNn.out (i + 1)
              have hgs := HFs.out
              have hw : wrap64 (frm F i + F.getD i 0) = frm F (i + 1) := by rw [← hfs]; unfold wrap64; omega
              have HSn := Lib.hid (pre_snoc hit)
              obtain ⟨f1, hf1⟩ : ∃ f1, f1 = frm F (i + 1) := ⟨_, rfl⟩
              rw [← hf1] at hw hfs hfb1 HSn
              clear hf1
              have hxl : ((pre F).take (i + 1)).length = i + 1 := by rw [List.length_take, pre_length]; omega
              have hil : i ≤ 1048576 := by omega
              clear hfs hfb hfb1 hgs
              generalize frm F i = f at *
              generalize F.getD i 0 = y at *
              generalize (pre F).take (i + 1) = xs at *
              have HXl := Lib.hid hxl
              go_wp2_with (first | (refine wpList_dstT 95 rfl ?_; refine wpList_intSlice (by kernel_rfl) (.tmp 94) (wrap64 (f + y)) rfl rfl ?_; intro wJ k1 k2; have HG := Lib.hid (hw ▸ k2.out); have HAj := Lib.hid (Aft.trans HA.out k1); have HUj := Lib.hid (HU.out.aft k1); have HSj := Lib.hid (Nat.le_of_lt (heap_lt k2.out)); clear k1 k2 hc hcl) | (at_builtin; refine wpList_snocI rfl (.tmp 86) (.tmp 95) rfl W6.heap.size _ xs rfl HUj.out wr.heap.size f1 rfl HG.out (by omega) (Nat.le_trans HA.out.size HSj.out) ?_; intro g9 c9 w9 k1 k2 k3; have HU9 := Lib.hid k1.out; have HA9 := Lib.hid (aft_fr HAj.out HUj.out (Nat.le_refl _) k2.out); clear k1 k2 k3))
              go_roundw
              case rel => exact ⟨i + 1, g9, c9, by omega, by go_num, rfl, (by rw [HSn.out]; have h := HU9.out; rwa [HXl.out] at h), HA9.out⟩
              case measure => simp [intOf]; omega
            · obtain rfl : i = F.length := by omega
              have hit' : ¬ ((F.length : Nat) : Int) < (F.length : Nat) := by omega
              have HP := Lib.hid (show Rd wr (.slice (some ⟨g, 0, none⟩) (F.length + 1) c) (zv (pre F)) by
                have h := HU.out.rd
                rwa [List.take_of_length_le (by rw [pre_length]; exact Nat.le_refl _)] at h)
              have HZ := Lib.hid (Aft.trans HL.out.aft HA.out)
              go_wp2_with fail
              go_ret2
              exact ⟨_, by rw [HE.out]; rfl, by rw [HVp.out]; exact HP.out, HZ.out⟩
end Go.Proofs.Ytpnckphfjcnooaa
