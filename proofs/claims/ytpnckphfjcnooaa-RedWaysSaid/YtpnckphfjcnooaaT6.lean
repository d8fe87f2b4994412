/- tree.own. -/
import Derived.Test.YtpnckphfjcnooaaT5
namespace Go.Proofs.Ytpnckphfjcnooaa
open Go Go.RowKit
set_option linter.unusedSimpArgs false
section
variable {ops : Array Oper} {rest : List Oper} {o : Oper} {a : Act} {w : World} {Q : Exit → Act → World → Prop} (hgd : o.guard = none) (x y : Operand) (g : Nat) (u v u' : Value) (hc : u'.cells = #[u']) (h1 : u'.oneCell' = true)
include hgd hc h1
theorem wpList_store_shpI (ho : o.op = .store 22 x y) (hx : a.eval x = .pointer (some ⟨g, 0, none⟩)) (hy : a.eval y = u') (hg : w.heap[g]? = some (.cells (shpL u v).toArray 26 (0, 0)))
    (h : ∀ w', Hid (w'.heap[g]? = some (.cells (shpL u' v).toArray 26 (0, 0))) → Hid (∀ k, k ≠ g → w'.heap[k]? = w.heap[k]?) → (∀ k w0, k ≤ g → Below k w0 w → Below k w0 w') → wpList Try.prog ops Q rest (a.put o.dst undef) w') : wpList Try.prog ops Q (o :: rest) a w :=
  wpList_store_part hgd _ x y ho g 0 u' hx hy _ [] [u] [u'] [v] hc rfl hg (by kernel_rfl) rfl (fun z hz => by simp at hz; subst hz; exact h1) h
theorem wpList_store_shpV (ho : o.op = .store 24 x y) (hx : a.eval x = .pointer (some ⟨g, 1, none⟩)) (hy : a.eval y = u') (hg : w.heap[g]? = some (.cells (shpL u v).toArray 26 (0, 0)))
    (h : ∀ w', Hid (w'.heap[g]? = some (.cells (shpL u u').toArray 26 (0, 0))) → Hid (∀ k, k ≠ g → w'.heap[k]? = w.heap[k]?) → (∀ k w0, k ≤ g → Below k w0 w → Below k w0 w') → wpList Try.prog ops Q rest (a.put o.dst undef) w') : wpList Try.prog ops Q (o :: rest) a w :=
  wpList_store_part hgd _ x y ho g 1 u' hx hy _ [u] [v] [u'] [] hc rfl hg (by kernel_rfl) rfl (fun z hz => by simp at hz; subst hz; exact h1) h
end
theorem shp_one {a b : Value} (ha : a.oneCell' = true) (hb : b.oneCell' = true) : ∀ u ∈ shpL a b, u.oneCell' = true := by
  intro u hu
  simp only [shpL, List.mem_cons, List.not_mem_nil, or_false] at hu
  rcases hu with rfl | rfl
  · exact ha
  · exact hb
theorem wpList_store_shp {ops : Array Oper} {rest : List Oper} {o : Oper} {a : Act} {w : World} {Q : Exit → Act → World → Prop} (hgd : o.guard = none) (x y : Operand) (g : Nat) (u v u' v' : Value) (h1 : u'.oneCell' = true) (h2 : v'.oneCell' = true) (ho : o.op = .store 26 x y) (hx : a.eval x = .pointer (some ⟨g, 0, none⟩)) (hy : a.eval y = .agg (shpL u' v').toArray) (hg : w.heap[g]? = some (.cells (shpL u v).toArray 26 (0, 0)))
    (h : ∀ w', Hid (w'.heap[g]? = some (.cells (shpL u' v').toArray 26 (0, 0))) → Hid (∀ k, k ≠ g → w'.heap[k]? = w.heap[k]?) → (∀ k w0, k ≤ g → Below k w0 w → Below k w0 w') → wpList Try.prog ops Q rest (a.put o.dst undef) w') : wpList Try.prog ops Q (o :: rest) a w :=
  wpList_store_rowZ hgd _ x y ho g (shpL u' v').toArray hx hy _ _ hg (shp_info _ _) rfl (all_one (shp_one h1 h2)) h
/-- A block of another type was turned. -/
theorem Led.elseT {w0 w w' : World} {L : List (Nat × Obj)} {g t : Nat} {cs : Array Value} {fr : Nat × Nat} (h : Led w0 w L) (hg : w.heap[g]? = some (.cells cs t fr)) (hl : w0.heap.size ≤ g) (hb : ∀ k, k ≠ g → w'.heap[k]? = w.heap[k]?) (h3 : ∀ k w0, k ≤ g → Below k w0 w → Below k w0 w')
    (ht : ∀ p ∈ L, ∀ cs' t' fr', p.2 = Obj.cells cs' t' fr' → t' ≠ t) : Led w0 w' L :=
  ⟨h3 _ _ hl h.aft, fun i k o hi => ⟨(hb k (fun e => by
    subst e
    have h1 := h.get i hi
    rw [hg] at h1
    exact ht _ (List.mem_of_getElem? hi) _ _ _ (Option.some.inj h1).symm rfl)).trans (h.get i hi), (h.has i k o hi).2⟩, h.inc⟩
theorem own_row_blk {w : World} {base e n : Nat} {v : Value} {xs : List Value} (h : w.ownsRow base e 1 v n xs) (hn : 0 < n) : ∃ g cap cur, v = .slice (some ⟨g, 0, none⟩) n cap ∧ base ≤ g ∧ w.heap[g]? = some (.cells cur e (0, 0)) := by
  rcases h.2 with ⟨-, h0⟩ | ⟨g, cap, cur, rfl, hb, hg, -⟩
  · omega
  · exact ⟨g, cap, cur, rfl, hb, hg⟩
/-- A block of another type is none of its own. -/
theorem own_off {w : World} {base e n g g' t : Nat} {v : Value} {xs : List Value} {cs : Array Value} {fr : Nat × Nat} (h : w.ownsRow base e 1 v n xs) (hg : w.heap[g]? = some (.cells cs t fr)) (ht : t ≠ e) (hv : v.ownBlock = some g') : g' ≠ g := by
  rcases h.2 with ⟨rfl, -⟩ | ⟨b, cap, cur, rfl, -, hb, -⟩
  · cases hv
  · cases hv
    rintro rfl
    have h1 : b = Addr.block ⟨b, 0, none⟩ := rfl
    rw [← h1] at hg
    rw [hb] at hg
    cases hg
    exact ht rfl
set_option maxRecDepth 100000 in
set_option maxHeartbeats 2000000 in
theorem own_any (vi vl : Value) (ids : List Int) (ls : List (List Int)) (w : World) (hi : Rd w vi (zv ids)) (hl : RdLs w vl ls) (hs : Small ids ls) :
    Calls Try.prog 62 #[.agg (shpL vi vl).toArray] w fun e w' => ∃ vi' vl' vs, e = .returned (.agg (shpL vi' vl').toArray) ∧ OwnTr w' w.heap.size vi' vl' vs ids ls ∧ Aft w w' := by
  obtain ⟨us, hu1, hu2, hu3⟩ := hl
  have hone : ∀ u ∈ us, u.oneCell' = true := fun u hu => by
    obtain ⟨i, hi⟩ := List.mem_iff_getElem?.1 hu
    obtain ⟨a, c, rfl, -⟩ := (hu3 i u hi).numS
    rfl
  have HCi := Lib.hid (fun (wx : World) (ha : Aft w wx) => cloneI_any vi (zv ids) wx (hi.grow ha) (zv_one _) (by rw [zv_length]; exact hs.fi))
  have HCl := Lib.hid (fun (wx : World) (ha : Aft w wx) => cloneL_any vl us wx (hu1.grow ha) hone (by rw [hu2]; exact hs.fl))
  have HCe := Lib.hid (fun (i : Nat) (u : Value) (hu : us[i]? = some u) (wx : World) (ha : Aft w wx) => cloneI_any u (zv (ls.getD i [])) wx ((hu3 i u hu).grow ha) (zv_one _) (by
    have hlt : i < ls.length := by rw [← hu2]; exact (List.getElem?_eq_some_iff.1 hu).1
    rw [zv_length]
    exact hs.fv _ (getD_mem hlt)))
  have HSh := Lib.hid (fun (i : Nat) (u : Value) (hu : us[i]? = some u) => (hu3 i u hu).numS)
  have HLen := Lib.hid hu2
  have HFl := Lib.hid (show us.length ≤ 1048576 by rw [hu2]; exact hs.fl)
  obtain ⟨ao, cap, rfl, -, -⟩ := hi.numS
  obtain ⟨bo, dap, rfl, -⟩ := id hu1
  rw [zv_length] at HCi
  have HL := Lib.hid (Led.start w)
  clear hi hs hu1 hu2 hu3 hone
  go_enter Try.func62, Try.ntmps62
  go_wp2_with (first | (refine wpList_boxO rfl 26 (.tmp 0) rfl (.agg (shpL (.slice ao ids.length cap) (.slice bo us.length dap)).toArray) rfl (.cells (shpL (.slice ao ids.length cap) (.slice bo us.length dap)).toArray 26) (box_shp _) ?_; intro wB aa gg zz; replace HL := Lib.hid (HL.out.alloc aa gg.out); clear aa gg zz; try simp only [List.nil_append, List.cons_append, List.set_cons_zero, List.set_cons_succ] at HL) | (refine wpList_allocO rfl 26 rfl (.cells (shpL (.slice none 0 0) (.slice none 0 0)).toArray 26) alloc_shp ?_; intro w' aa gg zz; replace HL := Lib.hid (HL.out.alloc aa gg.out); clear aa gg zz; try simp only [List.nil_append, List.cons_append, List.set_cons_zero, List.set_cons_succ] at HL))
  have f0 := fun u : Later w'.heap.size w' => shp_i (Aft.get u.h (HL.out.get 0 rfl))
  have f1 := fun u : Later w'.heap.size w' => shp_l (Aft.get u.h (HL.out.get 0 rfl))
  refine wp_region_lex (fun wz => ∃ u : Later w'.heap.size w', wz = u.w) (fun i => ([2, 5] : List Nat).contains i) 7 (by kernel_rfl) (by kernel_rfl) ⟨⟨w'.drew, (Below.refl _ _).drew⟩, rfl⟩ ?_
  change wpLx _ _ _ _ _ _ _ _ _ w'.drew
  have HD := Lib.hid (show Aft w' w'.drew from (Below.refl _ _).drew)
  generalize w'.drew = wd at *
  simp only [Act.put, List.setIfInBounds_toArray, List.set_cons_succ, List.set_cons_zero]
  repeat (first | (refine lx_skipT (by go_big_quiet_skip; exact wpQuiet_nil trivial) (by kernel_rfl) ?_; simp only [Act.put, List.setIfInBounds_toArray, List.set_cons_succ, List.set_cons_zero]) | (refine lx_quietT rfl (by go_big_quiet_want; exact quiet_false (by assumption)) (by kernel_rfl) rfl ?_; intro Kx hKx; go_big_quiet_op; go_big_quiet_on))
  refine lx_effT rfl (by go_big_quiet_want; exact quiet_false (by assumption)) (by kernel_rfl) ?_; intro Kx hKx; go_wp2_with fail
  refine (HCi.out _ (Aft.trans HL.out.aft HD.out)).mono ?_
  rintro r w4 ⟨vi', rfl, ho, h4⟩
  obtain ⟨a', c', rfl⟩ := own_shape ho
  have HOi := Lib.hid (show OwnI w4 w.heap.size (.slice a' ids.length c') ids from OwnI.mono ho (Below.size (Aft.trans HL.out.aft HD.out)))
  go_wp2_with fail
  refine ⟨Later.on (Aft.trans HD.out h4), ?_⟩
  replace HD := Lib.hid (Aft.trans HD.out h4)
  clear h4 ho
  repeat (first | (refine lx_skipT (by go_big_quiet_skip; exact wpQuiet_nil trivial) (by kernel_rfl) ?_; simp only [Act.put, List.setIfInBounds_toArray, List.set_cons_succ, List.set_cons_zero]) | (refine lx_quietT rfl (by go_big_quiet_want; exact quiet_false (by assumption)) (by kernel_rfl) rfl ?_; intro Kx hKx; go_big_quiet_op; go_big_quiet_on))
  refine lx_effT rfl (by go_big_quiet_want; exact quiet_false (by assumption)) (by kernel_rfl) ?_; intro Kx hKx; go_wp2_with fail
  refine (HCl.out _ (Aft.trans HL.out.aft HD.out)).mono ?_
  rintro r w5 ⟨vl', rfl, ho, h5⟩
  obtain ⟨b', d', rfl⟩ := own_shape ho
  have HOl := Lib.hid (show w5.ownsRow w.heap.size 22 1 (.slice b' us.length d') us.length us from ownsRow_mono ho (Below.size (Aft.trans HL.out.aft HD.out)))
  replace HOi := Lib.hid (HOi.out.aft h5)
  go_wp2_with fail
  refine ⟨Later.on (Aft.trans HD.out h5), ?_⟩
  replace HD := Lib.hid (Aft.trans HD.out h5)
  clear h5 ho
  repeat (first | (refine lx_skipT (by go_big_quiet_skip; exact wpQuiet_nil trivial) (by kernel_rfl) ?_; simp only [Act.put, List.setIfInBounds_toArray, List.set_cons_succ, List.set_cons_zero]) | (refine lx_quietT rfl (by go_big_quiet_want; exact quiet_false (by assumption)) (by kernel_rfl) rfl ?_; intro Kx hKx; go_big_quiet_op; go_big_quiet_on))
  refine lx_done ?_
  clear f0 f1
  replace HL := Lib.hid (HL.out.call HD.out)
  clear HD
  go_wp2_with (first | (refine wpList_store_shpI rfl (.tmp 11) (.tmp 7) _ _ _ (.slice a' ids.length c') rfl rfl rfl rfl rfl (HL.out.get 0 rfl) ?_; intro wS b1 b2 b3; replace HOi := Lib.hid (HOi.out.keep fun g hg => b2.out g (own_off HOi.out (HL.out.get 0 rfl) (by decide) hg)); replace HOl := Lib.hid (ownsRow_below HOl.out fun g hg => b2.out g (own_off HOl.out (HL.out.get 0 rfl) (by decide) hg)); replace HL := Lib.hid (HL.out.store 0 rfl b1 b2 b3); clear b1 b2 b3; try simp only [List.nil_append, List.cons_append, List.set_cons_zero, List.set_cons_succ] at HL) | (refine wpList_store_shpV rfl (.tmp 12) (.tmp 10) _ _ _ (.slice b' us.length d') rfl rfl rfl rfl rfl (HL.out.get 0 rfl) ?_; intro wL b1 b2 b3; replace HOi := Lib.hid (HOi.out.keep fun g hg => b2.out g (own_off HOi.out (HL.out.get 0 rfl) (by decide) hg)); replace HOl := Lib.hid (ownsRow_below HOl.out fun g hg => b2.out g (own_off HOl.out (HL.out.get 0 rfl) (by decide) hg)); replace HL := Lib.hid (HL.out.store 0 rfl b1 b2 b3); clear b1 b2 b3; try simp only [List.nil_append, List.cons_append, List.set_cons_zero, List.set_cons_succ] at HL; have hl1 := shp_l (HL.out.get 0 rfl)))
  clear hl1
  have HWL := Lib.hid HL.out.aft.size
  have HIb := Lib.hid (fun g hg => (HOi.out.lt (g := g) hg).2)
  have HLb := Lib.hid (fun g hg => (own_lt HOl.out (g := g) hg).2)
  go_loopw [16] (fun v16 wr => ∃ (i : Nat) (ws : List Value), i ≤ us.length ∧ v16 = .int .i64 (i : Int) ∧ ws.length = i ∧ (∀ (j : Nat) (u : Value), ws[j]? = some u → OwnI wr wL.heap.size u (ls.getD j [])) ∧ (∀ (j k : Nat) (u u' : Value) (g : Nat), j < k → ws[j]? = some u → ws[k]? = some u' → u.ownBlock = some g → u'.ownBlock ≠ some g) ∧ wr.ownsRow w.heap.size 22 1 (.slice b' us.length d') us.length (ws ++ us.drop i) ∧ OwnI wr w.heap.size (.slice a' ids.length c') ids ∧ wL.heap.size ≤ wr.heap.size ∧ Led w wr [(w.heap.size, .cells (shpL (.slice a' ids.length c') (.slice b' us.length d')).toArray 26), (wB.heap.size, .cells (shpL (.slice none 0 0) (.slice none 0 0)).toArray 26)]) (fun v _ => us.length - (intOf v).toNat)
  case atStart => exact ⟨0, [], by omega, rfl, rfl, fun j u hu => by simp at hu, fun j k u u' g _ hu => by simp at hu, by simpa using HOl.out, HOi.out, Nat.le_refl _, HL.out⟩
  case round =>
    clear HL HOi HOl
    obtain ⟨i, ws, hi, rfl, hwl, hwo, hwd, hrow, hids, hsz, hL⟩ := hrel
    have HL := Lib.hid hL
    have HW := Lib.hid hwl
    have HWo := Lib.hid hwo
    have HWd := Lib.hid hwd
    have HRow := Lib.hid hrow
    have HIds := Lib.hid hids
    have HSz := Lib.hid hsz
    clear hL hwl hwo hwd hrow hids hsz
    by_cases hlt : i < us.length
    · have hlt' : (i : Int) < (us.length : Nat) := by omega
      have hfl := HFl.out
      obtain ⟨u, hu⟩ : ∃ u, us[i]? = some u := ⟨_, List.getElem?_eq_getElem hlt⟩
      have HCx := Lib.hid (HCe.out i u hu)
      obtain ⟨au, cu, rfl, -, -⟩ := HSh.out i u hu
      have hget : (ws ++ us.drop i)[i]? = some (.slice au (ls.getD i []).length cu) := by
        rw [List.getElem?_append_right (by rw [HW.out]; exact Nat.le_refl _), HW.out, Nat.sub_self, List.getElem?_drop, Nat.add_zero]
        exact hu
      obtain ⟨gL, cL, cur, he, hgb, hgL⟩ := own_row_blk HRow.out (by omega)
      injection he with he1 he2 he3
      subst he1 he3
      have HGL := Lib.hid hgL
      have hrd := Rd.of_own HRow.out
      have hcl : ∀ wx : World, Aft wr wx → wx.cell? ⟨gL, i, none⟩ = some (.slice au (ls.getD i []).length cu) := fun wx ha => by
        have h1 := hrd.grow ha
        obtain ⟨a1, c1, he', -, -, -, h4⟩ := h1
        injection he' with q1 q2 q3
        have := h4 ⟨gL, 0, none⟩ (by rw [← q1]) i _ hget
        rwa [Addr.add_lit, Nat.zero_add] at this
      have HSet := Lib.hid (fun u' : Value => show (ws ++ us.drop i).set i u' = (ws ++ [u']) ++ us.drop (i + 1) from by
        rw [List.set_append_right _ _ (by rw [HW.out]; exact Nat.le_refl _), HW.out, Nat.sub_self, List.drop_eq_getElem_cons hlt, List.set_cons_zero, List.append_assoc]
        rfl)
      have HRl := Lib.hid (show (ws ++ us.drop i).length = us.length by rw [List.length_append, List.length_drop, HW.out]; omega)
      have hc0 := hcl _ (Aft.refl _)
      have hl1 := fun u : Later wr.heap.size wr => shp_l (Aft.get u.h (HL.out.get 0 rfl))
      have HGb := Lib.hid hgb
      have HGlt := Lib.hid (HLb.out gL rfl)
      clear hget hrd hcl hgL hgb he2 hu
      generalize hq : ls.getD i [] = l at *
      have HLq := Lib.hid hq
      clear hq
      go_wp2_with (first | (refine wp_region_lex (fun wz => ∃ u : Later wr.heap.size wr, wz = u.w) (fun i => ([4] : List Nat).contains i) 6 (by kernel_rfl) (by kernel_rfl) ⟨⟨wr.drew, (Below.refl _ _).drew⟩, rfl⟩ ?_))
      change wpLx _ _ _ _ _ _ _ _ _ wr.drew
      have HD := Lib.hid (show Aft wr wr.drew from (Below.refl _ _).drew)
      generalize wr.drew = wd at *
      try simp only [Act.put]
      repeat (first | (refine lx_skipT (by go_big_quiet_skip; exact wpQuiet_nil trivial) (by kernel_rfl) ?_; simp only [Act.put, List.setIfInBounds_toArray, List.set_cons_succ, List.set_cons_zero]) | (refine lx_quietT rfl (by go_big_quiet_want; exact quiet_false (by assumption)) (by kernel_rfl) rfl ?_; intro Kx hKx; go_big_quiet_op; go_big_quiet_on))
      refine lx_effT rfl (by go_big_quiet_want; exact quiet_false (by assumption)) (by kernel_rfl) ?_; intro Kx hKx; go_wp2_with fail
      refine (HCx.out _ (Aft.trans HL.out.aft HD.out)).mono ?_
      rintro r w6 ⟨u', rfl, ho, h6⟩
      rw [zv_length] at ho
      obtain ⟨a6, c6, rfl⟩ := own_shape ho
      go_wp2_with fail
      refine ⟨Later.on (Aft.trans HD.out h6), ?_⟩
      have HU := Lib.hid (show OwnI w6 wd.heap.size (.slice a6 l.length c6) l from ho)
      have HWr := Lib.hid (show wr.heap.size ≤ wd.heap.size from HD.out.size)
      have HA6 := Lib.hid (Aft.trans HD.out h6)
      clear h6 ho
      repeat (first | (refine lx_skipT (by go_big_quiet_skip; exact wpQuiet_nil trivial) (by kernel_rfl) ?_; simp only [Act.put, List.setIfInBounds_toArray, List.set_cons_succ, List.set_cons_zero]) | (refine lx_quietT rfl (by go_big_quiet_want; exact quiet_false (by assumption)) (by kernel_rfl) rfl ?_; intro Kx hKx; go_big_quiet_op; go_big_quiet_on))
      refine lx_done ?_
      clear hl1 hc0
      replace HL := Lib.hid (HL.out.call HA6.out)
      have HG6 := Lib.hid (Aft.get HA6.out HGL.out)
      have HR6 := Lib.hid (show w6.ownsRow w.heap.size 22 1 (.slice (some ⟨gL, 0, none⟩) us.length d') (ws ++ us.drop i).length (ws ++ us.drop i) by rw [HRl.out]; exact ownsRow_below HRow.out fun g hg => Below.block HA6.out g (own_lt HRow.out hg).2)
      go_wp2_with (first | (refine wpList_store_row1 rfl 22 (by kernel_rfl) (.tmp 26) (.tmp 25) rfl w.heap.size gL us.length d' (ws ++ us.drop i) i (by rw [HRl.out]; exact hlt) (.slice a6 l.length c6) rfl rfl HR6.out rfl rfl ?_; intro wS q1 b2 b3; have HQ := Lib.hid q1; have HB2 := b2; have HB3 := Lib.hid b3; clear q1 b2 b3))
      have HSe := Lib.hid (show Below gL w6 wS from HB3.out gL w6 (Nat.le_refl _) (Below.refl _ _))
      have HQ2 := Lib.hid (show wS.ownsRow w.heap.size 22 1 (.slice (some ⟨gL, 0, none⟩) us.length d') us.length ((ws ++ [.slice a6 l.length c6]) ++ us.drop (i + 1)) by
        have h := HQ.out
        rw [HSet.out, show ((ws ++ [Value.slice a6 l.length c6]) ++ us.drop (i + 1)).length = us.length by rw [List.length_append, List.length_append, List.length_drop, HW.out]; simp; omega] at h
        exact h)
      go_roundw
      case rel =>
        have hkp : ∀ (u : Value) (xs : List Int), OwnI w6 wL.heap.size u xs → OwnI wS wL.heap.size u xs := fun u xs h => h.keep fun g hg => HB2.out g (by have := (h.lt hg).1; have := HGlt.out; omega)
        refine ⟨i + 1, ws ++ [.slice a6 l.length c6], by omega, by go_num, by simp [HW.out], fun j u hju => ?_, fun j k u u2 g hjk hju hku hg => ?_, HQ2.out, ?_, ?_, ?_⟩
        · by_cases hj : j < ws.length
          · rw [List.getElem?_append_left hj] at hju
            exact hkp u _ ((HWo.out j u hju).aft HA6.out)
          · obtain ⟨e1, e2⟩ := getElem?_snoc hju hj
            rw [e1, HW.out, ← e2, HLq.out]
            exact hkp _ _ (HU.out.mono (by have := HSz.out; have := HWr.out; omega))
        · by_cases hk : k < ws.length
          · rw [List.getElem?_append_left hk] at hku
            rw [List.getElem?_append_left (by omega)] at hju
            exact HWd.out j k u u2 g hjk hju hku hg
          · obtain ⟨e1, e2⟩ := getElem?_snoc hku hk
            rw [List.getElem?_append_left (by omega)] at hju
            intro e3
            rw [← e2] at e3
            have h1 := (HU.out.lt e3).1
            have h2 := ((HWo.out j u hju).lt hg).2
            have := HWr.out
            omega
        · exact (HIds.out.aft HA6.out).keep fun g hg => HB2.out g (own_off (HIds.out.aft HA6.out) HG6.out (by decide) hg)
        · have h1 := HSz.out
          have h2 := HWr.out
          have h3 := Below.size HSe.out
          have h4 := Below.size HA6.out
          omega
        · exact HL.out.elseT HG6.out HGb.out HB2.out HB3.out (by
            intro p hp cs' t' fr' e
            simp only [List.mem_cons, List.not_mem_nil, or_false] at hp
            rcases hp with rfl | rfl <;> (cases e; decide))
      case measure => simp [intOf]; omega
    · obtain rfl : i = us.length := by omega
      have hlt' : ¬ ((us.length : Nat) : Int) < (us.length : Nat) := by omega
      have HRw := Lib.hid (show wr.ownsRow w.heap.size 22 1 (.slice b' us.length d') ws.length ws by
        have h := HRow.out
        rw [List.drop_length, List.append_nil, ← HW.out] at h
        rw [HW.out] at h ⊢
        exact h)
      clear HRow
      go_wp2_with (first | (refine wpList_load_rowG (by kernel_rfl) 26 (.tmp 1) rfl _ rfl _ _ _ _ (HL.out.get 0 rfl) Try.underlying26 rfl (shp_info _ _) ?_) | (refine wpList_store_shp rfl (.tmp 2) (.tmp 28) _ _ _ (.slice a' ids.length c') (.slice b' us.length d') rfl rfl rfl rfl rfl (HL.out.get 1 rfl) ?_; intro wS b1 b2 b3; have HB2 := b2; have HG1 := Lib.hid (HL.out.get 1 rfl); replace HL := Lib.hid (HL.out.store 1 rfl b1 b2 b3); clear b1 b2 b3; try simp only [List.nil_append, List.cons_append, List.set_cons_zero, List.set_cons_succ] at HL))
      refine bodyPost_ret (results_cell_row rfl _ _ _ 26 (shpL (.slice a' ids.length c') (.slice b' us.length d')).toArray (0, 0) _ rfl (HL.out.get 1 rfl) Try.underlying26 rfl (shp_info _ _)) rfl ?_
      refine ⟨_, _, rfl, ⟨ws, HIds.out.keep fun g hg => HB2.out g (own_off HIds.out HG1.out (by decide) hg), ⟨?_, by rw [HW.out, HLen.out], fun j u hju => ?_, HWd.out⟩, fun j u g hju hg => ?_⟩, HL.out.aft⟩
      · exact ownsRow_below HRw.out fun g hg => HB2.out g (own_off HRw.out HG1.out (by decide) hg)
      · exact ((HWo.out j u hju).keep fun g hg => HB2.out g (own_off (HWo.out j u hju) HG1.out (by decide) hg)).mono HWL.out
      · intro e
        have h1 := ((HWo.out j u hju).lt hg).1
        have h2 := HIb.out g e
        omega
end Go.Proofs.Ytpnckphfjcnooaa
