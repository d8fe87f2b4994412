/- coterieref10.mend: the neighbour on the right. -/
import Derived.Test.YtfgammcefaomeaaW13
namespace Go.Proofs.Ytfgammcefaomeaa
open Go Go.RowKit
set_option linter.unusedSimpArgs false
theorem mendT_right3 {d : Nat} {ks : List (NT (d + 1))} {x0 x1 x2 y : NT d} (hto : kidsT (ks.getD 1 (dfT (d + 1))) = [x0, x1, x2]) (htl : kidsT (ks.getD 0 (dfT (d + 1))) = [y]) : mendT ks 0 = (ks.set 0 (grpT [y, x0])).set 1 (grpT [x1, x2]) := by
  unfold mendT
  simp only []
  rw [if_neg (Nat.lt_irrefl _), hto, htl, if_pos (show [x0, x1, x2].length = 3 from rfl)]
  rfl
theorem mendT_right2 {d : Nat} {ks : List (NT (d + 1))} {x0 x1 y : NT d} (hto : kidsT (ks.getD 1 (dfT (d + 1))) = [x0, x1]) (htl : kidsT (ks.getD 0 (dfT (d + 1))) = [y]) : mendT ks 0 = (ks.set 1 (grpT [y, x0, x1])).drop 1 := by
  unfold mendT
  simp only []
  rw [if_neg (Nat.lt_irrefl _), hto, htl, if_neg (show ¬ [x0, x1].length = 3 from fun q => by cases q)]
  rfl
set_option maxRecDepth 100000 in
set_option maxHeartbeats 4000000 in
theorem rmend_right3 {d : Nat} (v : Value) (ps : List (NT (d + 1) × Value)) (B : Nat → Prop) (w : World) (hr : RdF (d + 1) w B v ps) (hB : ∀ g, B g → g < w.heap.size) (ha : 1 < ps.length) (hl : ps.length ≤ 1000)
    (tl to : NT (d + 1)) (kl ko : Value) (l0 o0 o1 o2 : NT d × Value) (hpa : ps.getD 0 (dfT (d + 1), .slice none 0 0) = (tl, kl)) (hpm : ps.getD 1 (dfT (d + 1), .slice none 0 0) = (to, ko)) (hl0 : RdF d w B kl [l0]) (htl : kidsT tl = [l0.1]) (hos : RdF d w B ko [o0, o1, o2]) (hto : kidsT to = [o0.1, o1.1, o2.1]) :
    Calls Try.prog 94 #[v, .int .i64 0] w (MendSays ps 0 B w) := by
  have HR := Lib.hid hr
  have HB := Lib.hid hB
  have HL0 := Lib.hid hl0
  have HOs := Lib.hid hos
  have HTl := Lib.hid htl
  have HTo := Lib.hid hto
  have HPa := Lib.hid hpa
  have HPm := Lib.hid hpm
  obtain ⟨g, o, cp, rfl, hcp⟩ := hr.nz rfl (by omega)
  obtain ⟨gl, ol, cl, rfl, hcl⟩ := hl0.nz (n := 1) rfl (by decide)
  obtain ⟨go', oo, co, rfl, hco⟩ := hos.nz (n := 3) rfl (by decide)
  have h10 := hr.wat (i := 0) (by omega) (dfT (d + 1), .slice none 0 0)
  have h11 := hr.wat (i := 1) ha (dfT (d + 1), .slice none 0 0)
  rw [hpa, Nat.zero_mul, Nat.add_zero] at h10
  rw [hpm] at h11
  have HA1 := Lib.hid h10
  have HA2 := Lib.hid (show ∀ wx, Aft w wx → wx.rangeAt g (o + 2) _ from h11)
  have fl := hl0.wat (i := 0) (by show 0 < 1; decide) (dfT d, .slice none 0 0)
  rw [Nat.zero_mul, Nat.add_zero] at fl
  have HFl := Lib.hid (show ∀ wx, Aft w wx → wx.rangeAt gl ol (ndK l0) from fl)
  have HF0 := Lib.hid (show ∀ wx, Aft w wx → wx.rangeAt go' oo (ndK o0) from by
    have := HOs.out.wat (i := 0) (by show 0 < 3; decide) (dfT d, .slice none 0 0)
    rwa [Nat.zero_mul, Nat.add_zero] at this)
  have HF1 := Lib.hid (show ∀ wx, Aft w wx → wx.rangeAt go' (oo + 2) (ndK o1) from HOs.out.wat (i := 1) (by show 1 < 3; decide) (dfT d, .slice none 0 0))
  have ha1 : (1 : Int) < (ps.length : Nat) := by omega
  have ha0 : (0 : Int) < (ps.length : Nat) := by omega
  have HL := Lib.hid hl
  have HA := Lib.hid ha
  clear h10 h11 hr hB hl0 hos htl hto hpa hpm fl hl ha hcp hcl
  go_enter Try.func94, Try.ntmps94
  go_wp2_with (first | (at_builtin; refine wpList_appK (d := d + 1) rfl (.const (.slice none 0 0)) (.tmp 9) rfl w.heap.size B (.slice none 0 0) [] rfl (OwnF.nil _ _ _ _) (fun k hk => by cases hk) _ ps rfl HR.out.row HR.out.kid (by have := HL.out; show 0 + ps.length ≤ 1000000; omega) (Nat.le_refl _) ?_; intro v5 w1 k1 k2 k3; have HA5 := Lib.hid (show Aft w w1 from Fr.below k2.out (Nat.le_refl _) (fun k e => by cases e)); obtain ⟨g5, c5, rfl, hc5⟩ := k1.out.nz (by have := HA.out; show 0 < ps.length; omega); have HG5 := Lib.hid (show g5 = w.heap.size from by (rcases k3.out g5 rfl with e | e; cases e; exact e)); have HO := Lib.hid (show OwnF (d + 1) w1 w.heap.size (fun x => (B x ∨ w.heap.size ≤ x) ∧ x ≠ g5) (.slice (some ⟨g5, 0, none⟩) ps.length c5) ps from k1.out.monoB (fun x hx _ => ⟨.inl hx.1, fun e => absurd hx.2 (by rw [e, HG5.out]; exact Nat.lt_irrefl _)⟩)); have c1 := (HA1.out w1 HA5.out) 1 (.slice (some ⟨gl, ol, none⟩) 1 cl) rfl; have c2 := (HA2.out w1 HA5.out) 1 (.slice (some ⟨go', oo, none⟩) 3 co) rfl; have HC5 := Lib.hid (show ps.length ≤ c5 from hc5); clear k1 k2 k3 hc5))
  have HO2 := HO
  have HA6 := HA5
  refine wp_region_lex (fun wz => ∃ u : Later w.heap.size w, wz = u.w) (fun i => ([7, 10] : List Nat).contains i) 11 (by kernel_rfl) (by kernel_rfl) ⟨⟨w1.drew, Below.drew HA6.out⟩, rfl⟩ ?_
  change wpLx _ _ _ _ _ _ _ _ _ w1.drew
  have HO3 := Lib.hid (HO2.out.aft (show Aft w1 w1.drew from (Below.refl _ _).drew))
  replace HA6 := Lib.hid (Aft.trans HA6.out (show Aft w1 w1.drew from (Below.refl _ _).drew))
  generalize w1.drew = wd at *
  try simp only [Act.put, List.setIfInBounds_toArray, List.set_cons_succ, List.set_cons_zero]
  repeat (first | (refine lx_skipT (by go_big_quiet_skip; exact wpQuiet_nil trivial) (by kernel_rfl) ?_; simp only [Act.put, List.setIfInBounds_toArray, List.set_cons_succ, List.set_cons_zero]) | (refine lx_quietT rfl (by go_big_quiet_want; exact quiet_false (by assumption)) (by kernel_rfl) rfl ?_; intro Kx hKx; go_big_quiet_op; go_big_quiet_on))
  refine lx_load_agg rfl (by kernel_rfl) 114 (.tmp 78) rfl ⟨gl, ol, none⟩ rfl #[.int .i64 (idT d l0.1), l0.2] (fun wz hz => by obtain ⟨u, rfl⟩ := hz; exact run_loadVar_mid u.w _ _ _ _ _ (HFl.out u.w u.h) Try.underlying114 rfl (rn_info2 l0)) ?_
  simp only [Act.put, List.setIfInBounds_toArray, List.set_cons_succ, List.set_cons_zero]
  repeat (first | (refine lx_skipT (by go_big_quiet_skip; exact wpQuiet_nil trivial) (by kernel_rfl) ?_; simp only [Act.put, List.setIfInBounds_toArray, List.set_cons_succ, List.set_cons_zero]) | (refine lx_quietT rfl (by go_big_quiet_want; exact quiet_false (by assumption)) (by kernel_rfl) rfl ?_; intro Kx hKx; go_big_quiet_op; go_big_quiet_on))
  refine lx_load_agg rfl (by kernel_rfl) 114 (.tmp 81) rfl ⟨go', oo, none⟩ rfl #[.int .i64 (idT d o0.1), o0.2] (fun wz hz => by obtain ⟨u, rfl⟩ := hz; exact run_loadVar_mid u.w _ _ _ _ _ (HF0.out u.w u.h) Try.underlying114 rfl (rn_info2 o0)) ?_
  simp only [Act.put, List.setIfInBounds_toArray, List.set_cons_succ, List.set_cons_zero]
  repeat (first | (refine lx_skipT (by go_big_quiet_skip; exact wpQuiet_nil trivial) (by kernel_rfl) ?_; simp only [Act.put, List.setIfInBounds_toArray, List.set_cons_succ, List.set_cons_zero]) | (refine lx_quietT rfl (by go_big_quiet_want; exact quiet_false (by assumption)) (by kernel_rfl) rfl ?_; intro Kx hKx; go_big_quiet_op; go_big_quiet_on))
  refine lx_eff rfl (by kernel_rfl) ?_
  intro Kx hKx
  refine wp_of_list (ops := #[]) (wpList_rn2 (by kernel_rfl) (.tmp 79) (.tmp 82) (idT d l0.1) (idT d o0.1) l0.2 o0.2 rfl rfl rfl ?_)
  intro w3 q1 q2
  have HA7 := Lib.hid (Aft.trans HA6.out q1)
  have HO4 := Lib.hid (HO3.out.aft q1)
  have HG3 := Lib.hid q2.out
  have HS3 := Lib.hid (Below.size HA6.out)
  have HLt := Lib.hid (heap_lt q2.out)
  clear q1 q2
  refine ⟨rfl, hKx _ _ ⟨Later.on HA7.out, ?_⟩⟩
  clear hKx
  simp only [Act.put, List.setIfInBounds_toArray, List.set_cons_succ, List.set_cons_zero]
  repeat (first | (refine lx_skipT (by go_big_quiet_skip; exact wpQuiet_nil trivial) (by kernel_rfl) ?_; simp only [Act.put, List.setIfInBounds_toArray, List.set_cons_succ, List.set_cons_zero]) | (refine lx_quietT rfl (by go_big_quiet_want; exact quiet_false (by assumption)) (by kernel_rfl) rfl ?_; intro Kx hKx; go_big_quiet_op; go_big_quiet_on))
  refine lx_eff rfl (by kernel_rfl) ?_
  intro Kx hKx
  refine wp_of_list (ops := #[]) (wpList_store_K rfl (.tmp 85) (.tmp 84) rfl w.heap.size (fun x => (B x ∨ w.heap.size ≤ x) ∧ x ≠ g5) g5 ps.length c5 _ 0 (by have := HA.out; omega) (grpT [l0.1, o0.1], .slice (some ⟨wd.heap.size, 0, none⟩) 2 2) HO4.out (fun h => h.2 rfl) rfl rfl ?_ ?_)
  · have hk : ∀ p ∈ [l0, o0], Kd d w3 (fun x => (B x ∨ w.heap.size ≤ x) ∧ x ≠ g5) p.1 p.2 := fun p hp => by
      have hm : ∀ x, B x → x < w.heap.size → (B x ∨ w.heap.size ≤ x) ∧ x ≠ g5 := fun x hx hl => ⟨.inl hx, fun e => absurd hl (by rw [e, HG5.out]; exact Nat.lt_irrefl _)⟩
      simp only [List.mem_cons, List.not_mem_nil, or_false] at hp
      rcases hp with rfl | rfl
      · exact ((HL0.out.mono hm).aft HA7.out).kid _ (by simp)
      · exact ((HOs.out.mono hm).aft HA7.out).kid _ (by simp)
    exact (OwnF.blk (base := 0) (ps := [l0, o0]) HG3.out (Nat.zero_le _) (by show 2 ≤ 1000; decide) hk).rd.kd.mono (fun x hx _ => by
      rcases hx with hx | hx
      · exact hx
      · have e : wd.heap.size = x := Option.some.inj hx
        have hg := (HO3.out.row.lt g5 rfl).2
        exact ⟨.inr (by rw [← e]; exact HS3.out), fun q => by omega⟩)
  intro w4 k1 k2
  have HO5 := Lib.hid k1.out
  have HA8 := Lib.hid (aft_frR HA7.out HO4.out.row.2 (Nat.le_refl _) k2.out)
  clear k1 k2
  refine ⟨rfl, hKx _ _ ⟨Later.on HA8.out, ?_⟩⟩
  clear hKx
  simp only [Act.put]
  repeat (first | (refine lx_skipT (by go_big_quiet_skip; exact wpQuiet_nil trivial) (by kernel_rfl) ?_; simp only [Act.put, List.setIfInBounds_toArray, List.set_cons_succ, List.set_cons_zero]) | (refine lx_quietT rfl (by go_big_quiet_want; exact quiet_false (by assumption)) (by kernel_rfl) rfl ?_; intro Kx hKx; go_big_quiet_op; go_big_quiet_on))
  refine lx_done ?_
  obtain ⟨ay, hay⟩ : ∃ ay : Option Addr, ay = (if co = 1 then (some ⟨go', oo, none⟩ : Option Addr) else (some (⟨go', oo, none⟩ : Addr)).map (·.add (1 * 2))) := ⟨_, rfl⟩
  have hs2 : ∀ wx, (Instr.slice 112 (.slice (some ⟨go', oo, none⟩) 3 co) (some (.int .i64 1)) none none).run Try.prog wx = .ok (.slice ay 2 (co - 1)) wx := fun wx => by
    rw [hay]
    exact run_fromK (n := 1) (by decide) wx
  have HK1 := Lib.hid (show Kd (d + 1) w4 (fun x => (B x ∨ w.heap.size ≤ x) ∧ x ≠ g5) (grpT [o1.1, o2.1]) (.slice ay 2 (co - 1)) from by
    rw [hay]
    exact ((HOs.out.from (n := 1) (by show 1 ≤ 3; decide)).kd.mono (fun x hx hl => ⟨.inl hx, fun e => absurd hl (by rw [e, HG5.out]; exact Nat.lt_irrefl _)⟩)).aft HA8.out)
  clear hay
  go_wp2_with (first | (refine wpList_store_K rfl (.tmp 90) (.tmp 89) rfl w.heap.size (fun x => (B x ∨ w.heap.size ≤ x) ∧ x ≠ g5) g5 ps.length c5 _ 1 (by rw [List.length_set]; exact HA.out) (grpT [o1.1, o2.1], .slice ay 2 (co - 1)) HO5.out (fun h => h.2 rfl) rfl rfl HK1.out ?_; intro w5 k1 k2; have HO6 := Lib.hid k1.out; have HA9 := Lib.hid (aft_frR HA8.out HO5.out.row.2 (Nat.le_refl _) k2.out); clear k1 k2))
  go_ret
  refine ⟨_, _, rfl, HO6.out.rd.mono (fun x hx _ => ?_), ?_, HA9.out⟩
  · rcases hx with hx | hx
    · exact hx.1
    · have e : g5 = x := Option.some.inj hx
      exact .inr (by rw [← e, HG5.out]; exact Nat.le_refl _)
  · have h1 : (ps.map Prod.fst).getD 0 (dfT (d + 1)) = tl := by rw [map_getD Prod.fst ps 0 (dfT (d + 1)) (dfT (d + 1), Value.slice none 0 0) (by have := HA.out; omega), HPa.out]
    have h2 : (ps.map Prod.fst).getD 1 (dfT (d + 1)) = to := by rw [map_getD Prod.fst ps 1 (dfT (d + 1)) (dfT (d + 1), Value.slice none 0 0) HA.out, HPm.out]
    rw [mendT_right3 (by rw [h2, HTo.out]) (by rw [h1, HTl.out]), List.map_set, List.map_set]
set_option maxRecDepth 100000 in
set_option maxHeartbeats 4000000 in
theorem rmend_right2 {d : Nat} (v : Value) (ps : List (NT (d + 1) × Value)) (B : Nat → Prop) (w : World) (hr : RdF (d + 1) w B v ps) (hB : ∀ g, B g → g < w.heap.size) (ha : 1 < ps.length) (hl : ps.length ≤ 1000)
    (tl to : NT (d + 1)) (kl ko : Value) (l0 o0 o1 : NT d × Value) (hpa : ps.getD 0 (dfT (d + 1), .slice none 0 0) = (tl, kl)) (hpm : ps.getD 1 (dfT (d + 1), .slice none 0 0) = (to, ko)) (hl0 : RdF d w B kl [l0]) (htl : kidsT tl = [l0.1]) (hos : RdF d w B ko [o0, o1]) (hto : kidsT to = [o0.1, o1.1]) :
    Calls Try.prog 94 #[v, .int .i64 0] w (MendSays ps 0 B w) := by
  have HR := Lib.hid hr
  have HB := Lib.hid hB
  have HL0 := Lib.hid hl0
  have HOs := Lib.hid hos
  have HTl := Lib.hid htl
  have HTo := Lib.hid hto
  have HPa := Lib.hid hpa
  have HPm := Lib.hid hpm
  obtain ⟨g, o, cp, rfl, hcp⟩ := hr.nz rfl (by omega)
  obtain ⟨gl, ol, cl, rfl, hcl⟩ := hl0.nz (n := 1) rfl (by decide)
  obtain ⟨go', oo, co, rfl, hco⟩ := hos.nz (n := 2) rfl (by decide)
  have h10 := hr.wat (i := 0) (by omega) (dfT (d + 1), .slice none 0 0)
  have h11 := hr.wat (i := 1) ha (dfT (d + 1), .slice none 0 0)
  rw [hpa, Nat.zero_mul, Nat.add_zero] at h10
  rw [hpm] at h11
  have HA1 := Lib.hid h10
  have HA2 := Lib.hid (show ∀ wx, Aft w wx → wx.rangeAt g (o + 2) _ from h11)
  have fl := hl0.wat (i := 0) (by show 0 < 1; decide) (dfT d, .slice none 0 0)
  rw [Nat.zero_mul, Nat.add_zero] at fl
  have HFl := Lib.hid (show ∀ wx, Aft w wx → wx.rangeAt gl ol (ndK l0) from fl)
  have HF0 := Lib.hid (show ∀ wx, Aft w wx → wx.rangeAt go' oo (ndK o0) from by
    have := HOs.out.wat (i := 0) (by show 0 < 2; decide) (dfT d, .slice none 0 0)
    rwa [Nat.zero_mul, Nat.add_zero] at this)
  have HF1 := Lib.hid (show ∀ wx, Aft w wx → wx.rangeAt go' (oo + 2) (ndK o1) from HOs.out.wat (i := 1) (by show 1 < 2; decide) (dfT d, .slice none 0 0))
  have ha1 : (1 : Int) < (ps.length : Nat) := by omega
  have ha0 : (0 : Int) < (ps.length : Nat) := by omega
  have HL := Lib.hid hl
  have HA := Lib.hid ha
  clear h10 h11 hr hB hl0 hos htl hto hpa hpm fl hl ha hcp hcl
  go_enter Try.func94, Try.ntmps94
  go_wp2_with (first | (at_builtin; refine wpList_appK (d := d + 1) rfl (.const (.slice none 0 0)) (.tmp 9) rfl w.heap.size B (.slice none 0 0) [] rfl (OwnF.nil _ _ _ _) (fun k hk => by cases hk) _ ps rfl HR.out.row HR.out.kid (by have := HL.out; show 0 + ps.length ≤ 1000000; omega) (Nat.le_refl _) ?_; intro v5 w1 k1 k2 k3; have HA5 := Lib.hid (show Aft w w1 from Fr.below k2.out (Nat.le_refl _) (fun k e => by cases e)); obtain ⟨g5, c5, rfl, hc5⟩ := k1.out.nz (by have := HA.out; show 0 < ps.length; omega); have HG5 := Lib.hid (show g5 = w.heap.size from by (rcases k3.out g5 rfl with e | e; cases e; exact e)); have HO := Lib.hid (show OwnF (d + 1) w1 w.heap.size (fun x => (B x ∨ w.heap.size ≤ x) ∧ x ≠ g5) (.slice (some ⟨g5, 0, none⟩) ps.length c5) ps from k1.out.monoB (fun x hx _ => ⟨.inl hx.1, fun e => absurd hx.2 (by rw [e, HG5.out]; exact Nat.lt_irrefl _)⟩)); have c1 := (HA1.out w1 HA5.out) 1 (.slice (some ⟨gl, ol, none⟩) 1 cl) rfl; have c2 := (HA2.out w1 HA5.out) 1 (.slice (some ⟨go', oo, none⟩) 2 co) rfl; have HC5 := Lib.hid (show ps.length ≤ c5 from hc5); clear k1 k2 k3 hc5))
  have HO2 := HO
  have HA6 := HA5
  refine wp_region_lex (fun wz => ∃ u : Later w.heap.size w, wz = u.w) (fun i => ([10, 13] : List Nat).contains i) 14 (by kernel_rfl) (by kernel_rfl) ⟨⟨w1.drew, Below.drew HA6.out⟩, rfl⟩ ?_
  change wpLx _ _ _ _ _ _ _ _ _ w1.drew
  have HO3 := Lib.hid (HO2.out.aft (show Aft w1 w1.drew from (Below.refl _ _).drew))
  replace HA6 := Lib.hid (Aft.trans HA6.out (show Aft w1 w1.drew from (Below.refl _ _).drew))
  generalize w1.drew = wd at *
  try simp only [Act.put, List.setIfInBounds_toArray, List.set_cons_succ, List.set_cons_zero]
  repeat (first | (refine lx_skipT (by go_big_quiet_skip; exact wpQuiet_nil trivial) (by kernel_rfl) ?_; simp only [Act.put, List.setIfInBounds_toArray, List.set_cons_succ, List.set_cons_zero]) | (refine lx_quietT rfl (by go_big_quiet_want; exact quiet_false (by assumption)) (by kernel_rfl) rfl ?_; intro Kx hKx; go_big_quiet_op; go_big_quiet_on))
  refine lx_load_agg rfl (by kernel_rfl) 114 (.tmp 94) rfl ⟨gl, ol, none⟩ rfl #[.int .i64 (idT d l0.1), l0.2] (fun wz hz => by obtain ⟨u, rfl⟩ := hz; exact run_loadVar_mid u.w _ _ _ _ _ (HFl.out u.w u.h) Try.underlying114 rfl (rn_info2 l0)) ?_
  simp only [Act.put, List.setIfInBounds_toArray, List.set_cons_succ, List.set_cons_zero]
  repeat (first | (refine lx_skipT (by go_big_quiet_skip; exact wpQuiet_nil trivial) (by kernel_rfl) ?_; simp only [Act.put, List.setIfInBounds_toArray, List.set_cons_succ, List.set_cons_zero]) | (refine lx_quietT rfl (by go_big_quiet_want; exact quiet_false (by assumption)) (by kernel_rfl) rfl ?_; intro Kx hKx; go_big_quiet_op; go_big_quiet_on))
  refine lx_load_agg rfl (by kernel_rfl) 114 (.tmp 97) rfl ⟨go', oo, none⟩ rfl #[.int .i64 (idT d o0.1), o0.2] (fun wz hz => by obtain ⟨u, rfl⟩ := hz; exact run_loadVar_mid u.w _ _ _ _ _ (HF0.out u.w u.h) Try.underlying114 rfl (rn_info2 o0)) ?_
  simp only [Act.put, List.setIfInBounds_toArray, List.set_cons_succ, List.set_cons_zero]
  repeat (first | (refine lx_skipT (by go_big_quiet_skip; exact wpQuiet_nil trivial) (by kernel_rfl) ?_; simp only [Act.put, List.setIfInBounds_toArray, List.set_cons_succ, List.set_cons_zero]) | (refine lx_quietT rfl (by go_big_quiet_want; exact quiet_false (by assumption)) (by kernel_rfl) rfl ?_; intro Kx hKx; go_big_quiet_op; go_big_quiet_on))
  refine lx_load_agg rfl (by kernel_rfl) 114 (.tmp 100) rfl ⟨go', oo + 2, none⟩ rfl #[.int .i64 (idT d o1.1), o1.2] (fun wz hz => by obtain ⟨u, rfl⟩ := hz; exact run_loadVar_mid u.w _ _ _ _ _ (HF1.out u.w u.h) Try.underlying114 rfl (rn_info2 o1)) ?_
  simp only [Act.put, List.setIfInBounds_toArray, List.set_cons_succ, List.set_cons_zero]
  repeat (first | (refine lx_skipT (by go_big_quiet_skip; exact wpQuiet_nil trivial) (by kernel_rfl) ?_; simp only [Act.put, List.setIfInBounds_toArray, List.set_cons_succ, List.set_cons_zero]) | (refine lx_quietT rfl (by go_big_quiet_want; exact quiet_false (by assumption)) (by kernel_rfl) rfl ?_; intro Kx hKx; go_big_quiet_op; go_big_quiet_on))
  refine lx_eff rfl (by kernel_rfl) ?_
  intro Kx hKx
  refine wp_of_list (ops := #[]) (wpList_rn3 (by kernel_rfl) (.tmp 95) (.tmp 98) (.tmp 101) (idT d l0.1) (idT d o0.1) (idT d o1.1) l0.2 o0.2 o1.2 rfl rfl rfl rfl ?_)
  intro w3 q1 q2
  have HA7 := Lib.hid (Aft.trans HA6.out q1)
  have HO4 := Lib.hid (HO3.out.aft q1)
  have HG3 := Lib.hid q2.out
  have HS3 := Lib.hid (Below.size HA6.out)
  have HLt := Lib.hid (heap_lt q2.out)
  clear q1 q2
  refine ⟨rfl, hKx _ _ ⟨Later.on HA7.out, ?_⟩⟩
  clear hKx
  simp only [Act.put, List.setIfInBounds_toArray, List.set_cons_succ, List.set_cons_zero]
  repeat (first | (refine lx_skipT (by go_big_quiet_skip; exact wpQuiet_nil trivial) (by kernel_rfl) ?_; simp only [Act.put, List.setIfInBounds_toArray, List.set_cons_succ, List.set_cons_zero]) | (refine lx_quietT rfl (by go_big_quiet_want; exact quiet_false (by assumption)) (by kernel_rfl) rfl ?_; intro Kx hKx; go_big_quiet_op; go_big_quiet_on))
  refine lx_eff rfl (by kernel_rfl) ?_
  intro Kx hKx
  refine wp_of_list (ops := #[]) (wpList_store_K rfl (.tmp 104) (.tmp 103) rfl w.heap.size (fun x => (B x ∨ w.heap.size ≤ x) ∧ x ≠ g5) g5 ps.length c5 _ 1 HA.out (grpT [l0.1, o0.1, o1.1], .slice (some ⟨wd.heap.size, 0, none⟩) 3 3) HO4.out (fun h => h.2 rfl) rfl rfl ?_ ?_)
  · have hk : ∀ p ∈ [l0, o0, o1], Kd d w3 (fun x => (B x ∨ w.heap.size ≤ x) ∧ x ≠ g5) p.1 p.2 := fun p hp => by
      have hm : ∀ x, B x → x < w.heap.size → (B x ∨ w.heap.size ≤ x) ∧ x ≠ g5 := fun x hx hl => ⟨.inl hx, fun e => absurd hl (by rw [e, HG5.out]; exact Nat.lt_irrefl _)⟩
      simp only [List.mem_cons, List.not_mem_nil, or_false] at hp
      rcases hp with rfl | rfl | rfl
      · exact ((HL0.out.mono hm).aft HA7.out).kid _ (by simp)
      · exact ((HOs.out.mono hm).aft HA7.out).kid _ (by simp)
      · exact ((HOs.out.mono hm).aft HA7.out).kid _ (by simp)
    exact (OwnF.blk (base := 0) (ps := [l0, o0, o1]) HG3.out (Nat.zero_le _) (by show 3 ≤ 1000; decide) hk).rd.kd.mono (fun x hx _ => by
      rcases hx with hx | hx
      · exact hx
      · have e : wd.heap.size = x := Option.some.inj hx
        have hg := (HO3.out.row.lt g5 rfl).2
        exact ⟨.inr (by rw [← e]; exact HS3.out), fun q => by omega⟩)
  intro w4 k1 k2
  have HO5 := Lib.hid k1.out
  have HA8 := Lib.hid (aft_frR HA7.out HO4.out.row.2 (Nat.le_refl _) k2.out)
  clear k1 k2
  refine ⟨rfl, hKx _ _ ⟨Later.on HA8.out, ?_⟩⟩
  clear hKx
  simp only [Act.put]
  repeat (first | (refine lx_skipT (by go_big_quiet_skip; exact wpQuiet_nil trivial) (by kernel_rfl) ?_; simp only [Act.put, List.setIfInBounds_toArray, List.set_cons_succ, List.set_cons_zero]) | (refine lx_quietT rfl (by go_big_quiet_want; exact quiet_false (by assumption)) (by kernel_rfl) rfl ?_; intro Kx hKx; go_big_quiet_op; go_big_quiet_on))
  refine lx_done ?_
  obtain ⟨P1, hP1⟩ : ∃ P1, P1 = ps.set 1 (grpT [l0.1, o0.1, o1.1], .slice (some ⟨wd.heap.size, 0, none⟩) 3 3) := ⟨_, rfl⟩
  rw [← hP1] at HO5
  have HP1 := Lib.hid hP1
  have HPl := Lib.hid (show P1.length = ps.length by rw [hP1, List.length_set])
  clear hP1
  obtain ⟨ay, hay⟩ : ∃ ay : Option Addr, ay = (if c5 = 1 then (some ⟨g5, 0, none⟩ : Option Addr) else (some (⟨g5, 0, none⟩ : Addr)).map (·.add (1 * 2))) := ⟨_, rfl⟩
  have hs2 : ∀ wx, (Instr.slice 112 (.slice (some ⟨g5, 0, none⟩) ps.length c5) (some (.int .i64 1)) none none).run Try.prog wx = .ok (.slice ay (ps.length - 1) (c5 - 1)) wx := fun wx => by
    rw [hay]
    exact run_fromK (n := 1) (by have := HA.out; omega) wx
  have HRd := Lib.hid (show RdF (d + 1) w4 _ (.slice ay (ps.length - 1) (c5 - 1)) (P1.drop 1) by rw [hay, ← HPl.out]; exact (HPl.out ▸ HO5.out.rd).from (n := 1) (by rw [HPl.out]; have := HA.out; omega))
  clear hay
  go_wp2_with fail
  go_ret
  refine ⟨_, _, rfl, HRd.out.mono (fun x hx _ => ?_), ?_, HA8.out⟩
  · rcases hx with hx | hx
    · exact hx.1
    · have e : g5 = x := Option.some.inj hx
      exact .inr (by rw [← e, HG5.out]; exact Nat.le_refl _)
  · have h1 : (ps.map Prod.fst).getD 0 (dfT (d + 1)) = tl := by rw [map_getD Prod.fst ps 0 (dfT (d + 1)) (dfT (d + 1), Value.slice none 0 0) (by have := HA.out; omega), HPa.out]
    have h2 : (ps.map Prod.fst).getD 1 (dfT (d + 1)) = to := by rw [map_getD Prod.fst ps 1 (dfT (d + 1)) (dfT (d + 1), Value.slice none 0 0) HA.out, HPm.out]
    rw [mendT_right2 (by rw [h2, HTo.out]) (by rw [h1, HTl.out]), List.map_drop, HP1.out, List.map_set]
end Go.Proofs.Ytfgammcefaomeaa
