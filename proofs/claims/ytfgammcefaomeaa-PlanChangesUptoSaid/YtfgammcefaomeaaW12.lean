/- coterieref10.mend. -/
import Derived.Test.YtfgammcefaomeaaW11
import Derived.Test.YtfgammcefaomeaaW7
import Derived.Test.YtfgammcefaomeaaW8
namespace Go.Proofs.Ytfgammcefaomeaa
open Go Go.RowKit
set_option linter.unusedSimpArgs false
def MendSays {d : Nat} (ps : List (NT (d + 1) × Value)) (a : Nat) (B : Nat → Prop) (w : World) (e : Ending) (w' : World) : Prop :=
  ∃ v qs, e = .returned v ∧ RdF (d + 1) w' (fun g => B g ∨ w.heap.size ≤ g) v qs ∧ qs.map Prod.fst = mendT (ps.map Prod.fst) a ∧ Aft w w'
theorem RdF.wat {d : Nat} {w : World} {B : Nat → Prop} {g o len cap : Nat} {ps : List (NT d × Value)} (h : RdF d w B (.slice (some ⟨g, o, none⟩) len cap) ps) {i : Nat} (hi : i < ps.length) (df : NT d × Value) : ∀ wx, Aft w wx → wx.rangeAt g (o + i * 2) (ndK (ps.getD i df)) := by
  obtain ⟨g', o', cap', he, -, h1, -⟩ := h.at hi df
  injection he with e1 e2 e3
  injection e1 with e1
  injection e1 with e1 e4 e5
  subst e1 e4
  exact h1
theorem RdF.nz {d : Nat} {w : World} {B : Nat → Prop} {v : Value} {ps : List (NT d × Value)} (h : RdF d w B v ps) {n : Nat} (hn : ps.length = n) (hp : 0 < n) : ∃ g o cap, v = .slice (some ⟨g, o, none⟩) n cap ∧ n ≤ cap := by
  subst hn
  obtain ⟨g, o, cap, he, -⟩ := h.at hp (dfT d, .slice none 0 0)
  obtain ⟨ao, c, he2, h1, -⟩ := h.shape
  rw [he] at he2
  injection he2 with e1 e2 e3
  exact ⟨g, o, cap, he, by omega⟩
theorem mendT_left3 {d : Nat} {ks : List (NT (d + 1))} {a m : Nat} {x0 x1 x2 y : NT d} (ham : a = m + 1) (hto : kidsT (ks.getD m (dfT (d + 1))) = [x0, x1, x2]) (htl : kidsT (ks.getD a (dfT (d + 1))) = [y]) : mendT ks a = (ks.set m (grpT [x0, x1])).set a (grpT [x2, y]) := by
  subst ham
  unfold mendT
  simp only []
  rw [if_pos (Nat.succ_pos _), Nat.add_sub_cancel, hto, htl, if_pos (show [x0, x1, x2].length = 3 from rfl)]
  rfl
set_option maxRecDepth 100000 in
set_option maxHeartbeats 4000000 in
theorem rmend_left {d : Nat} (v : Value) (ps : List (NT (d + 1) × Value)) (a m : Nat) (B : Nat → Prop) (w : World) (hr : RdF (d + 1) w B v ps) (hB : ∀ g, B g → g < w.heap.size) (ham : a = m + 1) (ha : a < ps.length) (hl : ps.length ≤ 1000)
    (tl to : NT (d + 1)) (kl ko : Value) (l0 o0 o1 o2 : NT d × Value) (hpa : ps.getD a (dfT (d + 1), .slice none 0 0) = (tl, kl)) (hpm : ps.getD m (dfT (d + 1), .slice none 0 0) = (to, ko)) (hl0 : RdF d w B kl [l0]) (htl : kidsT tl = [l0.1]) (hos : RdF d w B ko [o0, o1, o2]) (hto : kidsT to = [o0.1, o1.1, o2.1]) :
    Calls Try.prog 94 #[v, .int .i64 (a : Int)] w (MendSays ps a B w) := by
  have HR := Lib.hid hr
  have HB := Lib.hid hB
  have HAm := Lib.hid ham
  have HL0 := Lib.hid hl0
  have HOs := Lib.hid hos
  have HTl := Lib.hid htl
  have HTo := Lib.hid hto
  have HPa := Lib.hid hpa
  have HPm := Lib.hid hpm
  obtain ⟨g, o, cp, rfl, hcp⟩ := hr.nz rfl (by omega)
  obtain ⟨gl, ol, cl, rfl, hcl⟩ := hl0.nz (n := 1) rfl (by decide)
  obtain ⟨go', oo, co, rfl, hco⟩ := hos.nz (n := 3) rfl (by decide)
  have HA1 := Lib.hid (hr.wat ha (dfT (d + 1), .slice none 0 0))
  have HA2 := Lib.hid (hr.wat (show m < ps.length by omega) (dfT (d + 1), .slice none 0 0))
  rw [hpa] at HA1
  rw [hpm] at HA2
  have fl := hl0.wat (i := 0) (by show 0 < 1; decide) (dfT d, .slice none 0 0)
  rw [Nat.zero_mul, Nat.add_zero] at fl
  have HFl := Lib.hid (show ∀ wx, Aft w wx → wx.rangeAt gl ol (ndK l0) from fl)
  have HF2 := Lib.hid (show ∀ wx, Aft w wx → wx.rangeAt go' (oo + 2 * 2) (ndK o2) from HOs.out.wat (i := 2) (by show 2 < 3; decide) (dfT d, .slice none 0 0))
  have hsub : wrap64 ((a : Int) - 1) = (m : Int) := by rw [wrap64_mid (by omega) (by omega)]; omega
  have ha0 : (0 : Int) < (a : Int) := by omega
  have ham' : (m : Int) < (ps.length : Nat) := by omega
  have ha' : (a : Int) < (ps.length : Nat) := by omega
  have HL := Lib.hid hl
  have HA := Lib.hid ha
  clear hr hB ham hl0 hos htl hto hpa hpm fl hl ha hcp hcl
  go_enter Try.func94, Try.ntmps94
  have hw2 := fun wx => run_wholeK (ao := some ⟨go', oo, none⟩) (len := 3) (cap := co) (n := 2) (by omega) wx
  go_wp2_with (first | (at_builtin; refine wpList_appK (d := d + 1) rfl (.const (.slice none 0 0)) (.tmp 9) rfl w.heap.size B (.slice none 0 0) [] rfl (OwnF.nil _ _ _ _) (fun k hk => by cases hk) _ ps rfl HR.out.row HR.out.kid (by have := HL.out; show 0 + ps.length ≤ 1000000; omega) (Nat.le_refl _) ?_; intro v5 w1 k1 k2 k3; have HA5 := Lib.hid (show Aft w w1 from Fr.below k2.out (Nat.le_refl _) (fun k e => by cases e)); obtain ⟨g5, c5, rfl, hc5⟩ := k1.out.nz (by have := HA.out; show 0 < ps.length; omega); have HG5 := Lib.hid (show g5 = w.heap.size from by (rcases k3.out g5 rfl with e | e; cases e; exact e)); have HO := Lib.hid (show OwnF (d + 1) w1 w.heap.size (fun x => (B x ∨ w.heap.size ≤ x) ∧ x ≠ g5) (.slice (some ⟨g5, 0, none⟩) ps.length c5) ps from k1.out.monoB (fun x hx _ => ⟨.inl hx.1, fun e => absurd hx.2 (by rw [e, HG5.out]; exact Nat.lt_irrefl _)⟩)); have HK1 := Lib.hid (show Kd (d + 1) w1 (fun x => (B x ∨ w.heap.size ≤ x) ∧ x ≠ g5) (grpT [o0.1, o1.1]) (.slice (some ⟨go', oo, none⟩) 2 2) from ((HOs.out.to (n := 2) (c := 2) (by show 2 ≤ 3; decide) (Nat.le_refl _) (by omega)).kd.mono (fun x hx hl => ⟨.inl hx, fun e => absurd hl (by rw [e, HG5.out]; exact Nat.lt_irrefl _)⟩)).aft HA5.out);  have c1 := (HA1.out w1 HA5.out) 1 (.slice (some ⟨gl, ol, none⟩) 1 cl) rfl; have c2 := (HA2.out w1 HA5.out) 1 (.slice (some ⟨go', oo, none⟩) 3 co) rfl; clear k1 k2 k3 hc5) | (refine wpList_store_K rfl (.tmp 33) (.tmp 32) rfl w.heap.size (fun x => (B x ∨ w.heap.size ≤ x) ∧ x ≠ g5) g5 ps.length c5 ps m (by omega) (grpT [o0.1, o1.1], .slice (some ⟨go', oo, none⟩) 2 2) HO.out (fun h => h.2 rfl) rfl rfl HK1.out ?_; intro w2 k1 k2; have HO2 := Lib.hid k1.out; have HA6 := Lib.hid (aft_frR HA5.out HO.out.row.2 (Nat.le_refl _) k2.out); clear k1 k2))
  refine wp_region_lex (fun wz => ∃ u : Later w.heap.size w, wz = u.w) (fun i => ([8, 11] : List Nat).contains i) 12 (by kernel_rfl) (by kernel_rfl) ⟨⟨w2.drew, Below.drew HA6.out⟩, rfl⟩ ?_
  change wpLx _ _ _ _ _ _ _ _ _ w2.drew
  have HO3 := Lib.hid (HO2.out.aft (show Aft w2 w2.drew from (Below.refl _ _).drew))
  replace HA6 := Lib.hid (Aft.trans HA6.out (show Aft w2 w2.drew from (Below.refl _ _).drew))
  generalize w2.drew = wd at *
  try simp only [Act.put, List.setIfInBounds_toArray, List.set_cons_succ, List.set_cons_zero]
  repeat (first | (refine lx_skipT (by go_big_quiet_skip; exact wpQuiet_nil trivial) (by kernel_rfl) ?_; simp only [Act.put, List.setIfInBounds_toArray, List.set_cons_succ, List.set_cons_zero]) | (refine lx_quietT rfl (by go_big_quiet_want; exact quiet_false (by assumption)) (by kernel_rfl) rfl ?_; intro Kx hKx; go_big_quiet_op; go_big_quiet_on))
  refine lx_load_agg rfl (by kernel_rfl) 114 (.tmp 37) rfl ⟨go', oo + 2 * 2, none⟩ rfl #[.int .i64 (idT d o2.1), o2.2] (fun wz hz => by obtain ⟨u, rfl⟩ := hz; exact run_loadVar_mid u.w _ _ _ _ _ (HF2.out u.w u.h) Try.underlying114 rfl (rn_info2 o2)) ?_
  simp only [Act.put, List.setIfInBounds_toArray, List.set_cons_succ, List.set_cons_zero]
  repeat (first | (refine lx_skipT (by go_big_quiet_skip; exact wpQuiet_nil trivial) (by kernel_rfl) ?_; simp only [Act.put, List.setIfInBounds_toArray, List.set_cons_succ, List.set_cons_zero]) | (refine lx_quietT rfl (by go_big_quiet_want; exact quiet_false (by assumption)) (by kernel_rfl) rfl ?_; intro Kx hKx; go_big_quiet_op; go_big_quiet_on))
  refine lx_load_agg rfl (by kernel_rfl) 114 (.tmp 40) rfl ⟨gl, ol, none⟩ rfl #[.int .i64 (idT d l0.1), l0.2] (fun wz hz => by obtain ⟨u, rfl⟩ := hz; exact run_loadVar_mid u.w _ _ _ _ _ (HFl.out u.w u.h) Try.underlying114 rfl (rn_info2 l0)) ?_
  simp only [Act.put, List.setIfInBounds_toArray, List.set_cons_succ, List.set_cons_zero]
  repeat (first | (refine lx_skipT (by go_big_quiet_skip; exact wpQuiet_nil trivial) (by kernel_rfl) ?_; simp only [Act.put, List.setIfInBounds_toArray, List.set_cons_succ, List.set_cons_zero]) | (refine lx_quietT rfl (by go_big_quiet_want; exact quiet_false (by assumption)) (by kernel_rfl) rfl ?_; intro Kx hKx; go_big_quiet_op; go_big_quiet_on))
  refine lx_eff rfl (by kernel_rfl) ?_
  intro Kx hKx
  refine wp_of_list (ops := #[]) (wpList_rn2 (by kernel_rfl) (.tmp 38) (.tmp 41) (idT d o2.1) (idT d l0.1) o2.2 l0.2 rfl rfl rfl ?_)
  intro w3 q1 q2
  have HA7 := Lib.hid (Aft.trans HA6.out q1)
  have HO4 := Lib.hid (HO3.out.aft q1)
  have HG3 := Lib.hid q2.out
  have HS3 := Lib.hid (Below.size HA6.out)
  have HLt := Lib.hid (heap_lt q2.out)
  clear q1 q2
  refine ⟨rfl, hKx _ _ ⟨Later.on HA7.out, ?_⟩⟩
  clear hKx
  simp only [Act.put, List.setIfInBounds_toArray, List.set_cons_succ, List.set_cons_zero]
  repeat (first | (refine lx_skipT (by go_big_quiet_skip; exact wpQuiet_nil trivial) (by kernel_rfl) ?_; simp only [Act.put, List.setIfInBounds_toArray, List.set_cons_succ, List.set_cons_zero]) | (refine lx_quietT rfl (by go_big_quiet_want; exact quiet_false (by assumption)) (by kernel_rfl) rfl ?_; intro Kx hKx; go_big_quiet_op; go_big_quiet_on))
  refine lx_eff rfl (by kernel_rfl) ?_
  intro Kx hKx
  refine wp_of_list (ops := #[]) (wpList_store_K rfl (.tmp 44) (.tmp 43) rfl w.heap.size (fun x => (B x ∨ w.heap.size ≤ x) ∧ x ≠ g5) g5 ps.length c5 _ a (by rw [List.length_set]; exact HA.out) (grpT [o2.1, l0.1], .slice (some ⟨wd.heap.size, 0, none⟩) 2 2) HO4.out (fun h => h.2 rfl) rfl rfl ?_ ?_)
  · have hk : ∀ p ∈ [o2, l0], Kd d w3 (fun x => (B x ∨ w.heap.size ≤ x) ∧ x ≠ g5) p.1 p.2 := fun p hp => by
      have hm : ∀ x, B x → x < w.heap.size → (B x ∨ w.heap.size ≤ x) ∧ x ≠ g5 := fun x hx hl => ⟨.inl hx, fun e => absurd hl (by rw [e, HG5.out]; exact Nat.lt_irrefl _)⟩
      simp only [List.mem_cons, List.not_mem_nil, or_false] at hp
      rcases hp with rfl | rfl
      · exact ((HOs.out.mono hm).aft HA7.out).kid _ (by simp)
      · exact ((HL0.out.mono hm).aft HA7.out).kid _ (by simp)
    exact (OwnF.blk (base := 0) (ps := [o2, l0]) HG3.out (Nat.zero_le _) (by show 2 ≤ 1000; decide) hk).rd.kd.mono (fun x hx _ => by
      rcases hx with hx | hx
      · exact hx
      · have e : wd.heap.size = x := Option.some.inj hx
        have hg := (HO3.out.row.lt g5 rfl).2
        exact ⟨.inr (by rw [← e]; exact HS3.out), fun q => by omega⟩)
  intro w4 k1 k2
  have HO5 := Lib.hid k1.out
  have HA8 := Lib.hid (aft_frR HA7.out HO4.out.row.2 (Nat.le_refl _) k2.out)
  clear k1 k2
  refine ⟨rfl, hKx _ _ ⟨Later.on HA8.out, ?_⟩⟩
  clear hKx
  simp only [Act.put]
  repeat (first | (refine lx_skipT (by go_big_quiet_skip; exact wpQuiet_nil trivial) (by kernel_rfl) ?_; simp only [Act.put, List.setIfInBounds_toArray, List.set_cons_succ, List.set_cons_zero]) | (refine lx_quietT rfl (by go_big_quiet_want; exact quiet_false (by assumption)) (by kernel_rfl) rfl ?_; intro Kx hKx; go_big_quiet_op; go_big_quiet_on))
  refine lx_done ?_
  go_wp2_with fail
  go_ret
  refine ⟨_, _, rfl, HO5.out.rd.mono (fun x hx _ => ?_), ?_, HA8.out⟩
  · rcases hx with hx | hx
    · exact hx.1
    · have e : g5 = x := Option.some.inj hx
      exact .inr (by rw [← e, HG5.out]; exact Nat.le_refl _)
  · have h1 : (ps.map Prod.fst).getD a (dfT (d + 1)) = tl := by rw [map_getD Prod.fst ps a (dfT (d + 1)) (dfT (d + 1), Value.slice none 0 0) HA.out, HPa.out]
    have h2 : (ps.map Prod.fst).getD m (dfT (d + 1)) = to := by rw [map_getD Prod.fst ps m (dfT (d + 1)) (dfT (d + 1), Value.slice none 0 0) (by have := HA.out; have := HAm.out; omega), HPm.out]
    rw [mendT_left3 HAm.out (by rw [h2, HTo.out]) (by rw [h1, HTl.out]), List.map_set, List.map_set]
end Go.Proofs.Ytfgammcefaomeaa
