/- coterieref10.mend: the second case. -/
import Derived.Test.YtfgammcefaomeaaW12
namespace Go.Proofs.Ytfgammcefaomeaa
open Go Go.RowKit
set_option linter.unusedSimpArgs false
theorem wpList_rn3 {ops : Array Oper} {rest : List Oper} {o : Oper} {a : Act} {w : World} {Q : Exit → Act → World → Prop} (hw : Region.wanted o (yielded ops a.tmps) = true) (y1 y2 y3 : Operand) (z1 z2 z3 : Int) (u1 u2 u3 : Value) (ho : o.op = .buildSlice 112 3 #[(0, y1), (1, y2), (2, y3)]) (hy : a.eval y1 = .agg #[.int .i64 z1, u1]) (hz : a.eval y2 = .agg #[.int .i64 z2, u2]) (hx : a.eval y3 = .agg #[.int .i64 z3, u3])
    (h : ∀ w', Aft w w' → Hid (w'.heap[w.heap.size]? = some (.cells #[.int .i64 z1, u1, .int .i64 z2, u2, .int .i64 z3, u3] 114 (0, 0))) → wpList Try.prog ops Q rest (a.put o.dst (.slice (some ⟨w.heap.size, 0, none⟩) 3 3)) w') : wpList Try.prog ops Q (o :: rest) a w := by
  unfold wpList
  rw [if_pos hw]
  refine .inl (wp_noOut ?_)
  unfold Oper.wp execOp
  simp only [ho, hy, hz, hx, Sem.run_bind, List.map_toArray, List.map_cons, List.map_nil, run_rn3 z1 z2 z3 u1 u2 u3 w, Result.andThen_ok, Sem.run_pure]
  exact h _ (Aft.alloc w _) (heap_alloc_new w _)
theorem OwnF.to {d : Nat} {w : World} {base : Nat} {B : Nat → Prop} {g n cap i : Nat} {ps : List (NT d × Value)} (h : OwnF d w base B (.slice (some ⟨g, 0, none⟩) n cap) ps) (hi : i ≤ ps.length) : OwnF d w base B (.slice (some ⟨g, 0, none⟩) i cap) (ps.take i) := by
  have hl : (rowsK (ps.take i)).length = i := by rw [rowsK_length, List.length_take]; omega
  have hR : Row 2 (rowsK (ps.take i)) := fun r hr => h.row.1 r (by
    unfold rowsK at hr ⊢
    rw [List.map_take] at hr
    exact List.mem_of_mem_take hr)
  rcases h.row.2.2 with ⟨he, -⟩ | ⟨g', cap', cur, he, hb, hg, h1, h2, h3, h4⟩
  · cases he
  cases he
  rw [rowsK_length] at h1 h4
  refine ⟨⟨hR, ?_, .inr ⟨g, cap, cur, ?_, hb, hg, ?_, h2, h3, ?_⟩⟩, fun p hp => h.kid p (List.mem_of_mem_take hp)⟩
  · rw [rows_length hR]
  · rw [hl]
  · omega
  · rw [hl]
    have e1 : rowsK ps = rowsK (ps.take i) ++ rowsK (ps.drop i) := by rw [← rowsK_append, List.take_append_drop]
    have e2 := congrArg (List.take (i * 2)) h4
    rw [List.take_take, Nat.min_eq_left (by omega), e1, List.flatten_append, List.take_append_of_le_length (by rw [rows_length hR, hl]; exact Nat.le_refl _), List.take_of_length_le (l := (rowsK (ps.take i)).flatten) (by rw [rows_length hR, hl]; exact Nat.le_refl _)] at e2
    exact e2
theorem mendT_left2 {d : Nat} {ks : List (NT (d + 1))} {a m : Nat} {x0 x1 y : NT d} (ham : a = m + 1) (hto : kidsT (ks.getD m (dfT (d + 1))) = [x0, x1]) (htl : kidsT (ks.getD a (dfT (d + 1))) = [y]) : mendT ks a = (ks.set m (grpT [x0, x1, y])).take a ++ ks.drop (a + 1) := by
  subst ham
  unfold mendT
  simp only []
  rw [if_pos (Nat.succ_pos _), Nat.add_sub_cancel, hto, htl, if_neg (show ¬ [x0, x1].length = 3 from fun q => by cases q)]
  rfl
set_option maxRecDepth 100000 in
set_option maxHeartbeats 4000000 in
theorem rmend_left2 {d : Nat} (v : Value) (ps : List (NT (d + 1) × Value)) (a m : Nat) (B : Nat → Prop) (w : World) (hr : RdF (d + 1) w B v ps) (hB : ∀ g, B g → g < w.heap.size) (ham : a = m + 1) (ha : a < ps.length) (hl : ps.length ≤ 1000)
    (tl to : NT (d + 1)) (kl ko : Value) (l0 o0 o1 : NT d × Value) (hpa : ps.getD a (dfT (d + 1), .slice none 0 0) = (tl, kl)) (hpm : ps.getD m (dfT (d + 1), .slice none 0 0) = (to, ko)) (hl0 : RdF d w B kl [l0]) (htl : kidsT tl = [l0.1]) (hos : RdF d w B ko [o0, o1]) (hto : kidsT to = [o0.1, o1.1]) :
    Calls Try.prog 94 #[v, .int .i64 (a : Int)] w (MendSays ps a B w) := by
  have HR := Lib.hid hr
  have HB := Lib.hid hB
  have HAm := Lib.hid ham
  have HL0 := Lib.hid hl0
  have HOs := Lib.hid hos
  have HTl := Lib.hid htl
  have HTo := Lib.hid hto
  have HPa := Lib.hid hpa
  have HPm := Lib.hid hpm
  obtain ⟨g, o, cp, rfl, hcp⟩ := hr.nz rfl (by omega)
  obtain ⟨gl, ol, cl, rfl, hcl⟩ := hl0.nz (n := 1) rfl (by decide)
  obtain ⟨go', oo, co, rfl, hco⟩ := hos.nz (n := 2) rfl (by decide)
  have HA1 := Lib.hid (hr.wat ha (dfT (d + 1), .slice none 0 0))
  have HA2 := Lib.hid (hr.wat (show m < ps.length by omega) (dfT (d + 1), .slice none 0 0))
  rw [hpa] at HA1
  rw [hpm] at HA2
  have fl := hl0.wat (i := 0) (by show 0 < 1; decide) (dfT d, .slice none 0 0)
  rw [Nat.zero_mul, Nat.add_zero] at fl
  have HFl := Lib.hid (show ∀ wx, Aft w wx → wx.rangeAt gl ol (ndK l0) from fl)
  have HF0 := Lib.hid (show ∀ wx, Aft w wx → wx.rangeAt go' oo (ndK o0) from by
    have := HOs.out.wat (i := 0) (by show 0 < 2; decide) (dfT d, .slice none 0 0)
    rwa [Nat.zero_mul, Nat.add_zero] at this)
  have HF1 := Lib.hid (show ∀ wx, Aft w wx → wx.rangeAt go' (oo + 2) (ndK o1) from HOs.out.wat (i := 1) (by show 1 < 2; decide) (dfT d, .slice none 0 0))
  have hsub : wrap64 ((a : Int) - 1) = (m : Int) := by rw [wrap64_mid (by omega) (by omega)]; omega
  have ha0 : (0 : Int) < (a : Int) := by omega
  have ham' : (m : Int) < (ps.length : Nat) := by omega
  have ha' : (a : Int) < (ps.length : Nat) := by omega
  have HL := Lib.hid hl
  have HA := Lib.hid ha
  clear hr hB ham hl0 hos htl hto hpa hpm fl hl ha hcp hcl
  go_enter Try.func94, Try.ntmps94
  go_wp2_with (first | (at_builtin; refine wpList_appK (d := d + 1) rfl (.const (.slice none 0 0)) (.tmp 9) rfl w.heap.size B (.slice none 0 0) [] rfl (OwnF.nil _ _ _ _) (fun k hk => by cases hk) _ ps rfl HR.out.row HR.out.kid (by have := HL.out; show 0 + ps.length ≤ 1000000; omega) (Nat.le_refl _) ?_; intro v5 w1 k1 k2 k3; have HA5 := Lib.hid (show Aft w w1 from Fr.below k2.out (Nat.le_refl _) (fun k e => by cases e)); obtain ⟨g5, c5, rfl, hc5⟩ := k1.out.nz (by have := HA.out; show 0 < ps.length; omega); have HG5 := Lib.hid (show g5 = w.heap.size from by (rcases k3.out g5 rfl with e | e; cases e; exact e)); have HO := Lib.hid (show OwnF (d + 1) w1 w.heap.size (fun x => (B x ∨ w.heap.size ≤ x) ∧ x ≠ g5) (.slice (some ⟨g5, 0, none⟩) ps.length c5) ps from k1.out.monoB (fun x hx _ => ⟨.inl hx.1, fun e => absurd hx.2 (by rw [e, HG5.out]; exact Nat.lt_irrefl _)⟩)); have c1 := (HA1.out w1 HA5.out) 1 (.slice (some ⟨gl, ol, none⟩) 1 cl) rfl; have c2 := (HA2.out w1 HA5.out) 1 (.slice (some ⟨go', oo, none⟩) 2 co) rfl; have HC5 := Lib.hid (show ps.length ≤ c5 from hc5); clear k1 k2 k3 hc5))
  have HO2 := HO
  have HA6 := HA5
  refine wp_region_lex (fun wz => ∃ u : Later w.heap.size w, wz = u.w) (fun i => ([12, 15] : List Nat).contains i) 16 (by kernel_rfl) (by kernel_rfl) ⟨⟨w1.drew, Below.drew HA6.out⟩, rfl⟩ ?_
  change wpLx _ _ _ _ _ _ _ _ _ w1.drew
  have HO3 := Lib.hid (HO2.out.aft (show Aft w1 w1.drew from (Below.refl _ _).drew))
  replace HA6 := Lib.hid (Aft.trans HA6.out (show Aft w1 w1.drew from (Below.refl _ _).drew))
  generalize w1.drew = wd at *
  try simp only [Act.put, List.setIfInBounds_toArray, List.set_cons_succ, List.set_cons_zero]
  repeat (first | (refine lx_skipT (by go_big_quiet_skip; exact wpQuiet_nil trivial) (by kernel_rfl) ?_; simp only [Act.put, List.setIfInBounds_toArray, List.set_cons_succ, List.set_cons_zero]) | (refine lx_quietT rfl (by go_big_quiet_want; exact quiet_false (by assumption)) (by kernel_rfl) rfl ?_; intro Kx hKx; go_big_quiet_op; go_big_quiet_on))
  refine lx_load_agg rfl (by kernel_rfl) 114 (.tmp 50) rfl ⟨go', oo, none⟩ rfl #[.int .i64 (idT d o0.1), o0.2] (fun wz hz => by obtain ⟨u, rfl⟩ := hz; exact run_loadVar_mid u.w _ _ _ _ _ (HF0.out u.w u.h) Try.underlying114 rfl (rn_info2 o0)) ?_
  simp only [Act.put, List.setIfInBounds_toArray, List.set_cons_succ, List.set_cons_zero]
  repeat (first | (refine lx_skipT (by go_big_quiet_skip; exact wpQuiet_nil trivial) (by kernel_rfl) ?_; simp only [Act.put, List.setIfInBounds_toArray, List.set_cons_succ, List.set_cons_zero]) | (refine lx_quietT rfl (by go_big_quiet_want; exact quiet_false (by assumption)) (by kernel_rfl) rfl ?_; intro Kx hKx; go_big_quiet_op; go_big_quiet_on))
  refine lx_load_agg rfl (by kernel_rfl) 114 (.tmp 53) rfl ⟨go', oo + 2, none⟩ rfl #[.int .i64 (idT d o1.1), o1.2] (fun wz hz => by obtain ⟨u, rfl⟩ := hz; exact run_loadVar_mid u.w _ _ _ _ _ (HF1.out u.w u.h) Try.underlying114 rfl (rn_info2 o1)) ?_
  simp only [Act.put, List.setIfInBounds_toArray, List.set_cons_succ, List.set_cons_zero]
  repeat (first | (refine lx_skipT (by go_big_quiet_skip; exact wpQuiet_nil trivial) (by kernel_rfl) ?_; simp only [Act.put, List.setIfInBounds_toArray, List.set_cons_succ, List.set_cons_zero]) | (refine lx_quietT rfl (by go_big_quiet_want; exact quiet_false (by assumption)) (by kernel_rfl) rfl ?_; intro Kx hKx; go_big_quiet_op; go_big_quiet_on))
  refine lx_load_agg rfl (by kernel_rfl) 114 (.tmp 56) rfl ⟨gl, ol, none⟩ rfl #[.int .i64 (idT d l0.1), l0.2] (fun wz hz => by obtain ⟨u, rfl⟩ := hz; exact run_loadVar_mid u.w _ _ _ _ _ (HFl.out u.w u.h) Try.underlying114 rfl (rn_info2 l0)) ?_
  simp only [Act.put, List.setIfInBounds_toArray, List.set_cons_succ, List.set_cons_zero]
  repeat (first | (refine lx_skipT (by go_big_quiet_skip; exact wpQuiet_nil trivial) (by kernel_rfl) ?_; simp only [Act.put, List.setIfInBounds_toArray, List.set_cons_succ, List.set_cons_zero]) | (refine lx_quietT rfl (by go_big_quiet_want; exact quiet_false (by assumption)) (by kernel_rfl) rfl ?_; intro Kx hKx; go_big_quiet_op; go_big_quiet_on))
  refine lx_eff rfl (by kernel_rfl) ?_
  intro Kx hKx
  refine wp_of_list (ops := #[]) (wpList_rn3 (by kernel_rfl) (.tmp 51) (.tmp 54) (.tmp 57) (idT d o0.1) (idT d o1.1) (idT d l0.1) o0.2 o1.2 l0.2 rfl rfl rfl rfl ?_)
  intro w3 q1 q2
  have HA7 := Lib.hid (Aft.trans HA6.out q1)
  have HO4 := Lib.hid (HO3.out.aft q1)
  have HG3 := Lib.hid q2.out
  have HS3 := Lib.hid (Below.size HA6.out)
  have HLt := Lib.hid (heap_lt q2.out)
  clear q1 q2
  refine ⟨rfl, hKx _ _ ⟨Later.on HA7.out, ?_⟩⟩
  clear hKx
  simp only [Act.put, List.setIfInBounds_toArray, List.set_cons_succ, List.set_cons_zero]
  repeat (first | (refine lx_skipT (by go_big_quiet_skip; exact wpQuiet_nil trivial) (by kernel_rfl) ?_; simp only [Act.put, List.setIfInBounds_toArray, List.set_cons_succ, List.set_cons_zero]) | (refine lx_quietT rfl (by go_big_quiet_want; exact quiet_false (by assumption)) (by kernel_rfl) rfl ?_; intro Kx hKx; go_big_quiet_op; go_big_quiet_on))
  refine lx_eff rfl (by kernel_rfl) ?_
  intro Kx hKx
  refine wp_of_list (ops := #[]) (wpList_store_K rfl (.tmp 60) (.tmp 59) rfl w.heap.size (fun x => (B x ∨ w.heap.size ≤ x) ∧ x ≠ g5) g5 ps.length c5 _ m (by have := HA.out; have := HAm.out; omega) (grpT [o0.1, o1.1, l0.1], .slice (some ⟨wd.heap.size, 0, none⟩) 3 3) HO4.out (fun h => h.2 rfl) rfl rfl ?_ ?_)
  · have hk : ∀ p ∈ [o0, o1, l0], Kd d w3 (fun x => (B x ∨ w.heap.size ≤ x) ∧ x ≠ g5) p.1 p.2 := fun p hp => by
      have hm : ∀ x, B x → x < w.heap.size → (B x ∨ w.heap.size ≤ x) ∧ x ≠ g5 := fun x hx hl => ⟨.inl hx, fun e => absurd hl (by rw [e, HG5.out]; exact Nat.lt_irrefl _)⟩
      simp only [List.mem_cons, List.not_mem_nil, or_false] at hp
      rcases hp with rfl | rfl | rfl
      · exact ((HOs.out.mono hm).aft HA7.out).kid _ (by simp)
      · exact ((HOs.out.mono hm).aft HA7.out).kid _ (by simp)
      · exact ((HL0.out.mono hm).aft HA7.out).kid _ (by simp)
    exact (OwnF.blk (base := 0) (ps := [o0, o1, l0]) HG3.out (Nat.zero_le _) (by show 3 ≤ 1000; decide) hk).rd.kd.mono (fun x hx _ => by
      rcases hx with hx | hx
      · exact hx
      · have e : wd.heap.size = x := Option.some.inj hx
        have hg := (HO3.out.row.lt g5 rfl).2
        exact ⟨.inr (by rw [← e]; exact HS3.out), fun q => by omega⟩)
  intro w4 k1 k2
  have HO5 := Lib.hid k1.out
  have HA8 := Lib.hid (aft_frR HA7.out HO4.out.row.2 (Nat.le_refl _) k2.out)
  clear k1 k2
  refine ⟨rfl, hKx _ _ ⟨Later.on HA8.out, ?_⟩⟩
  clear hKx
  simp only [Act.put]
  repeat (first | (refine lx_skipT (by go_big_quiet_skip; exact wpQuiet_nil trivial) (by kernel_rfl) ?_; simp only [Act.put, List.setIfInBounds_toArray, List.set_cons_succ, List.set_cons_zero]) | (refine lx_quietT rfl (by go_big_quiet_want; exact quiet_false (by assumption)) (by kernel_rfl) rfl ?_; intro Kx hKx; go_big_quiet_op; go_big_quiet_on))
  refine lx_done ?_
  obtain ⟨P1, hP1⟩ : ∃ P1, P1 = ps.set m (grpT [o0.1, o1.1, l0.1], .slice (some ⟨wd.heap.size, 0, none⟩) 3 3) := ⟨_, rfl⟩
  rw [← hP1] at HO5
  have HP1 := Lib.hid hP1
  have HPl := Lib.hid (show P1.length = ps.length by rw [hP1, List.length_set])
  clear hP1
  obtain ⟨b, hb⟩ : ∃ b, b = a + 1 := ⟨_, rfl⟩
  have hadd : wrap64 ((a : Int) + 1) = (b : Int) := by rw [hb, wrap64_mid (by omega) (by have := HL.out; omega)]; rfl
  have HBe := Lib.hid hb
  have hbl : b ≤ ps.length := by omega
  have hac : a ≤ c5 := by have := HC5.out; omega
  have hs1 := fun wx => run_toK (ao := some ⟨g5, 0, none⟩) (len := ps.length) (cap := c5) (n := a) hac wx
  obtain ⟨ay, hay⟩ : ∃ ay : Option Addr, ay = (if c5 = b then (some ⟨g5, 0, none⟩ : Option Addr) else (some (⟨g5, 0, none⟩ : Addr)).map (·.add (b * 2))) := ⟨_, rfl⟩
  have hs2 : ∀ wx, (Instr.slice 112 (.slice (some ⟨g5, 0, none⟩) ps.length c5) (some (.int .i64 (b : Int))) none none).run Try.prog wx = .ok (.slice ay (ps.length - b) (c5 - b)) wx := fun wx => by
    rw [hay]
    exact run_fromK (n := b) hbl wx
  have HRd := Lib.hid (show RdF (d + 1) w4 _ (.slice ay (ps.length - b) (c5 - b)) (P1.drop b) by rw [hay, ← HPl.out]; exact (HPl.out ▸ HO5.out.rd).from (n := b) (by rw [HPl.out]; exact hbl))
  clear hb hay
  go_wp2_with fail
  refine wp_region_lex (fun wz => ∃ u : Later w.heap.size w, wz = u.w) (fun i => ([7] : List Nat).contains i) 8 (by kernel_rfl) (by kernel_rfl) ⟨⟨w4.drew, Below.drew HA8.out⟩, rfl⟩ ?_
  change wpLx _ _ _ _ _ _ _ _ _ w4.drew
  have HO6 := Lib.hid (HO5.out.aft (show Aft w4 w4.drew from (Below.refl _ _).drew))
  have HRe := Lib.hid (HRd.out.aft (show Aft w4 w4.drew from (Below.refl _ _).drew))
  have HA9 := Lib.hid (Aft.trans HA8.out (show Aft w4 w4.drew from (Below.refl _ _).drew))
  generalize w4.drew = wf at *
  try simp only [Act.put, List.setIfInBounds_toArray, List.set_cons_succ, List.set_cons_zero]
  repeat (first | (refine lx_skipT (by go_big_quiet_skip; exact wpQuiet_nil trivial) (by kernel_rfl) ?_; simp only [Act.put, List.setIfInBounds_toArray, List.set_cons_succ, List.set_cons_zero]) | (refine lx_quietT rfl (by go_big_quiet_want; exact quiet_false (by assumption)) (by kernel_rfl) rfl ?_; intro Kx hKx; go_big_quiet_op; go_big_quiet_on))
  refine lx_eff rfl (by kernel_rfl) ?_
  intro Kx hKx
  refine wp_of_list (ops := #[]) (wpList_appK (d := d + 1) rfl (.tmp 63) (.tmp 67) rfl w.heap.size (fun x => (B x ∨ w.heap.size ≤ x) ∧ x ≠ g5) (.slice (some ⟨g5, 0, none⟩) a c5) (P1.take a) rfl (HO6.out.to (by rw [HPl.out]; omega)) (fun k hk h => h.2 (Option.some.inj hk).symm) (.slice ay (ps.length - b) (c5 - b)) (P1.drop b) rfl HRe.out.row (fun p hp => HO6.out.kid p (List.mem_of_mem_drop hp)) (by rw [List.length_take, List.length_drop, HPl.out]; have := HL.out; omega) (Below.size HA9.out) ?_)
  intro v9 w5 k1 k2 k3
  have HO7 := Lib.hid k1.out
  have HV9 := Lib.hid k3.out
  have HAa := Lib.hid (aft_frR HA9.out (HO6.out.to (i := a) (by rw [HPl.out]; omega)).row.2 (Nat.le_refl _) k2.out)
  have HSz := Lib.hid (Below.size HA9.out)
  clear k1 k2 k3
  refine ⟨rfl, hKx _ _ ⟨Later.on HAa.out, ?_⟩⟩
  clear hKx hs1 hs2
  simp only [Act.put, List.setIfInBounds_toArray, List.set_cons_succ, List.set_cons_zero]
  refine lx_done ?_
  go_wp2_with fail
  go_ret
  refine ⟨_, _, rfl, HO7.out.rd.mono (fun x hx _ => ?_), ?_, HAa.out⟩
  · rcases hx with hx | hx
    · exact hx.1.1
    · rcases HV9.out x hx with e | e
      · have e : g5 = x := Option.some.inj e
        exact .inr (by rw [← e, HG5.out]; exact Nat.le_refl _)
      · exact .inr (by rw [e]; exact HSz.out)
  · have h1 : (ps.map Prod.fst).getD a (dfT (d + 1)) = tl := by rw [map_getD Prod.fst ps a (dfT (d + 1)) (dfT (d + 1), Value.slice none 0 0) HA.out, HPa.out]
    have h2 : (ps.map Prod.fst).getD m (dfT (d + 1)) = to := by rw [map_getD Prod.fst ps m (dfT (d + 1)) (dfT (d + 1), Value.slice none 0 0) (by have := HA.out; have := HAm.out; omega), HPm.out]
    rw [mendT_left2 HAm.out (by rw [h2, HTo.out]) (by rw [h1, HTl.out]), List.map_append, List.map_take, List.map_drop, HP1.out, List.map_set, HBe.out, List.drop_set_of_lt (by have := HAm.out; omega)]
end Go.Proofs.Ytfgammcefaomeaa
