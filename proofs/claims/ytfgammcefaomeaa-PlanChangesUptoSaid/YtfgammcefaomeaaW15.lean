/- coterieref10.mend, whole; coterieref10.without. -/
import Derived.Test.YtfgammcefaomeaaW14
namespace Go.Proofs.Ytfgammcefaomeaa
open Go Go.RowKit
set_option linter.unusedSimpArgs false
theorem RdF.mem {d : Nat} {w : World} {B : Nat → Prop} {v : Value} {ps : List (NT d × Value)} (h : RdF d w B v ps) {i : Nat} (hi : i < ps.length) (df : NT d × Value) : Kd d w B (ps.getD i df).1 (ps.getD i df).2 := h.kid _ (by
  rw [List.getD_eq_getElem?_getD, List.getElem?_eq_getElem hi]
  exact List.getElem_mem hi)
theorem fst_one {d : Nat} {ks : List (NT d × Value)} {l : List (NT d)} (h : ks.map Prod.fst = l) (hl : l.length = 1) : ∃ a, ks = [a] := by
  rw [← h, List.length_map] at hl
  exact List.length_eq_one_iff.1 hl
theorem fst_set {d : Nat} (ps : List (NT d × Value)) (c : Nat) (p : NT d × Value) : (ps.set c p).map Prod.fst = (ps.map Prod.fst).set c p.1 := List.map_set
theorem fst_two {d : Nat} {ks : List (NT d × Value)} {l : List (NT d)} (h : ks.map Prod.fst = l) (hl : l.length = 2) : ∃ a b, ks = [a, b] := by
  rw [← h, List.length_map] at hl
  match ks, hl with
  | [a, b], _ => exact ⟨a, b, rfl⟩
theorem fst_three {d : Nat} {ks : List (NT d × Value)} {l : List (NT d)} (h : ks.map Prod.fst = l) (hl : l.length = 3) : ∃ a b c, ks = [a, b, c] := by
  rw [← h, List.length_map] at hl
  match ks, hl with
  | [a, b, c], _ => exact ⟨a, b, c, rfl⟩
theorem rmend_any {d : Nat} (v : Value) (ps : List (NT (d + 1) × Value)) (a : Nat) (B : Nat → Prop) (w : World) (hr : RdF (d + 1) w B v ps) (hB : ∀ g, B g → g < w.heap.size) (ha : a < ps.length) (h2 : 2 ≤ ps.length) (hl : ps.length ≤ 1000)
    (h1 : (kidsT (ps.getD a (dfT (d + 1), .slice none 0 0)).1).length = 1) (ho : ∀ j, j < ps.length → j ≠ a → (kidsT (ps.getD j (dfT (d + 1), .slice none 0 0)).1).length = 2 ∨ (kidsT (ps.getD j (dfT (d + 1), .slice none 0 0)).1).length = 3) :
    Calls Try.prog 94 #[v, .int .i64 (a : Int)] w (MendSays ps a B w) := by
  obtain ⟨ks, hks, hkr⟩ := (hr.mem ha (dfT (d + 1), .slice none 0 0)).rdF
  obtain ⟨l0, rfl⟩ := fst_one hks h1
  rcases hpa : ps.getD a (dfT (d + 1), Value.slice none 0 0) with ⟨tl, kl⟩
  rw [hpa] at hks hkr
  cases a with
  | zero =>
    have hj := ho 1 (by omega) (by decide)
    obtain ⟨os, hos, hor⟩ := (hr.mem (i := 1) (by omega) (dfT (d + 1), .slice none 0 0)).rdF
    rcases hpm : ps.getD 1 (dfT (d + 1), Value.slice none 0 0) with ⟨to, ko⟩
    rw [hpm] at hos hor hj
    rcases hj with hj | hj
    · obtain ⟨o0, o1, rfl⟩ := fst_two hos hj
      exact rmend_right2 v ps B w hr hB (by omega) hl tl to kl ko l0 o0 o1 hpa hpm hkr hks.symm hor hos.symm
    · obtain ⟨o0, o1, o2, rfl⟩ := fst_three hos hj
      exact rmend_right3 v ps B w hr hB (by omega) hl tl to kl ko l0 o0 o1 o2 hpa hpm hkr hks.symm hor hos.symm
  | succ m =>
    have hj := ho m (by omega) (by omega)
    obtain ⟨os, hos, hor⟩ := (hr.mem (i := m) (by omega) (dfT (d + 1), .slice none 0 0)).rdF
    rcases hpm : ps.getD m (dfT (d + 1), Value.slice none 0 0) with ⟨to, ko⟩
    rw [hpm] at hos hor hj
    rcases hj with hj | hj
    · obtain ⟨o0, o1, rfl⟩ := fst_two hos hj
      exact rmend_left2 v ps (m + 1) m B w hr hB rfl ha hl tl to kl ko l0 o0 o1 hpa hpm hkr hks.symm hor hos.symm
    · obtain ⟨o0, o1, o2, rfl⟩ := fst_three hos hj
      exact rmend_left v ps (m + 1) m B w hr hB rfl ha hl tl to kl ko l0 o0 o1 o2 hpa hpm hkr hks.symm hor hos.symm
def GoneSays (id : Int) (d : Nat) (t : NT (d + 1)) (B : Nat → Prop) (w : World) (e : Ending) (w' : World) : Prop :=
  ∃ k, e = .returned (.agg (ndK (goneT id d t, k)).toArray) ∧ Kd (d + 1) w' (fun g => B g ∨ w.heap.size ≤ g) (goneT id d t) k ∧ Aft w w'
theorem led_two {w0 w w' : World} {b0 b1 : Nat} {o0 o1 : Obj} {v : Value} (h : Led w0 w [(b0, o0), (b1, o1)]) (hf : Fr (fun x => v.ownBlock = some x) w w') (hv : ∀ g, v.ownBlock = some g → b1 < g) (h01 : b0 ≤ b1) (hb : w0.heap.size ≤ b0) : Led w0 w' [(b0, o0), (b1, o1)] :=
  h.frS hf (fun x hx => Nat.le_trans hb (Nat.le_trans h01 (Nat.le_of_lt (hv x hx)))) (fun i g o' hi q => by
    have h0 := (List.getElem?_eq_some_iff.1 hi).1
    simp only [List.length_cons, List.length_nil] at h0
    match i, h0, hi with
    | 0, _, hi =>
      cases hi
      exact absurd (hv _ q) (Nat.not_lt.2 h01)
    | 1, _, hi =>
      cases hi
      exact absurd (hv _ q) (Nat.lt_irrefl _))
set_option maxRecDepth 100000 in
set_option maxHeartbeats 8000000 in
theorem rwithout_step (id : Int) (e : Nat) (ih : ∀ d', e = d' + 1 → ∀ (t : NT (d' + 1)) (k : Value) (B : Nat → Prop) (w : World), Kd (d' + 1) w B t k → wfT (d' + 1) t → (∀ g, B g → g < w.heap.size) → Calls Try.prog 80 #[.agg (ndK (t, k)).toArray, .int .i64 id] w (GoneSays id d' t B w))
    (t : NT (e + 1)) (k : Value) (B : Nat → Prop) (w : World) (hk : Kd (e + 1) w B t k) (hw : wfT (e + 1) t) (hBl : ∀ g, B g → g < w.heap.size) :
    Calls Try.prog 80 #[.agg (ndK (t, k)).toArray, .int .i64 id] w (GoneSays id e t B w) := by
  obtain ⟨ps, hps, hr⟩ := hk.rdF
  have hlen : ps.length = (kidsT t).length := by rw [← hps, List.length_map]
  have hl23 : ps.length = 2 ∨ ps.length = 3 := by rw [hlen]; exact hw.1
  have hget : ∀ i, (ps.getD i (dfT e, .slice none 0 0)).1 = (kidsT t).getD i (dfT e) := fun i => by
    rw [← hps]
    simp only [List.getD_eq_getElem?_getD, List.getElem?_map]
    cases ps[i]? <;> rfl
  have hmem : ∀ i, i < ps.length → ps.getD i (dfT e, .slice none 0 0) ∈ ps := fun i hi => by
    rw [List.getD_eq_getElem?_getD, List.getElem?_eq_getElem hi]
    exact List.getElem_mem hi
  have hwf : ∀ i, i < ps.length → wfT e (ps.getD i (dfT e, .slice none 0 0)).1 := fun i hi => by
    rw [hget]
    refine hw.2 _ ?_
    rw [List.getD_eq_getElem?_getD, List.getElem?_eq_getElem (by rw [← hlen]; exact hi)]
    exact List.getElem_mem _
  have hat : chP (fun f => decide (f ≤ id)) e (kidsT t) ps.length < ps.length := lastP_lt _ _ (by omega)
  obtain ⟨g, o, cap, rfl, hgl, -, -⟩ := hr.at (show 0 < ps.length by omega) (dfT e, .slice none 0 0)
  have hcap : ps.length ≤ cap ∧ cap ≤ 9223372036854775807 := by
    obtain ⟨ao, cap', he, h1, h2⟩ := hr.shape
    injection he with e1 e2 e3
    omega
  have HIh := Lib.hid ih
  have HR := Lib.hid hr
  have HPs := Lib.hid hps
  have HGet := Lib.hid hget
  have HWf := Lib.hid hwf
  have HBl := Lib.hid hBl
  have HAt := Lib.hid hat
  have HCap := Lib.hid hcap
  have HL23 := Lib.hid hl23
  have HLen := Lib.hid hlen
  have HFst := Lib.hid (fun (i : Nat) (hi : i < ps.length) (wx : World) (ha : Aft w wx) => rfirst_any e (ps.getD i (dfT e, .slice none 0 0)).1 (ps.getD i (dfT e, .slice none 0 0)).2 B wx ((hr.kid _ (hmem i hi)).aft ha) (hwf i hi))
  have HRg := Lib.hid (fun (i : Nat) (hi : i < ps.length) (wx : World) (ha : Aft w wx) => show wx.rangeAt g (o + i * 2) (ndK (ps.getD i (dfT e, .slice none 0 0))) from hr.wat hi _ wx ha)
  have HKd := Lib.hid (fun (i : Nat) (hi : i < ps.length) => hr.kid _ (hmem i hi))
  have HL := Lib.hid (Led.start w)
  clear hk hr hps hget hmem hwf hBl hat hcap hl23 ih hlen hgl
  go_enter Try.func80, Try.ntmps80
  go_wp2_with (first | (refine wpList_boxO rfl 114 (.tmp 0) rfl (.agg (ndK (t, (.slice (some ⟨g, o, none⟩) ps.length cap))).toArray) rfl (.cells (ndK (t, (.slice (some ⟨g, o, none⟩) ps.length cap))).toArray 114) (box_rn _) ?_; intro w1 aa gg zz; replace HL := Lib.hid (HL.out.alloc aa gg.out); clear aa gg zz; (try simp only [List.nil_append, List.cons_append, List.set_cons_zero, List.set_cons_succ] at HL)) | (refine wpList_allocO rfl 114 rfl (.cells [.int .i64 0, .slice none 0 0].toArray 114) alloc_rn ?_; intro w2 aa gg zz; have HS1 := Lib.hid (heap_lt (HL.out.get 0 rfl)); replace HL := Lib.hid (HL.out.alloc aa gg.out); clear aa gg zz; (try simp only [List.nil_append, List.cons_append, List.set_cons_zero, List.set_cons_succ] at HL); have hc1 := cell_part (n := 1) (HL.out.get 0 rfl) (show _ = some (Value.slice (some ⟨g, o, none⟩) ps.length cap) from rfl)))
  obtain ⟨b1, hb1⟩ : ∃ b1, b1 = w1.heap.size := ⟨_, rfl⟩
  rw [← hb1] at HL HS1 ⊢
  clear hb1
  go_loopw [5, 13] (fun v5 v28 wr => ∃ i : Nat, i ≤ ps.length ∧ v28 = .int .i64 (i : Int) ∧ v5 = .int .i64 ((chP (fun f => decide (f ≤ id)) e (kidsT t) i : Nat) : Int) ∧ Led w wr [(w.heap.size, .cells (ndK (t, (.slice (some ⟨g, o, none⟩) ps.length cap))).toArray 114), (b1, .cells #[.int .i64 0, .slice none 0 0] 114)]) (fun _ v _ => ps.length - (intOf v).toNat)
  case atStart => exact ⟨0, Nat.zero_le _, rfl, rfl, HL.out⟩
  case round =>
    clear HL hc1
    obtain ⟨i, hi, rfl, rfl, hL⟩ := hrel
    have HL := Lib.hid hL
    clear hL
    by_cases hlt : i < ps.length
    · have hlt' : (i : Int) < (ps.length : Nat) := by omega
      have hi9 : (i : Int) ≤ 3 := by have := HL23.out; omega
      have HRx := Lib.hid (HRg.out i hlt wr HL.out.aft)
      have HF := Lib.hid (HFst.out i hlt)
      have HOne := Lib.hid (HKd.out i hlt).one
      have HCh := Lib.hid (show chP (fun f => decide (f ≤ id)) e (kidsT t) (i + 1) = if fstT e (ps.getD i (dfT e, .slice none 0 0)).1 ≤ id then i else chP (fun f => decide (f ≤ id)) e (kidsT t) i by
        rw [HGet.out]
        show (if decide (fstT e ((kidsT t).getD i (dfT e)) ≤ id) = true then i else _) = _
        simp only [decide_eq_true_eq]
        rfl)
      generalize chP (fun f => decide (f ≤ id)) e (kidsT t) i = c at *
      generalize ps.getD i (dfT e, .slice none 0 0) = p at *
      go_wp2_with (first | (refine wpList_load_mid2 (by kernel_rfl) 114 (.tmp 16) rfl _ _ rfl (ndK p) HRx.out _ Try.underlying114 rfl (rn_info2 _) ?_) | (refine wpList_allocO rfl 114 rfl (.cells [.int .i64 0, .slice none 0 0].toArray 114) alloc_rn ?_; intro w' aa gg zz; replace HL := Lib.hid (HL.out.alloc aa gg.out); clear aa gg zz; try simp only [List.nil_append, List.cons_append, List.set_cons_zero, List.set_cons_succ] at HL) | (refine wpList_store_rowZ rfl 114 (.tmp 7) (.tmp 17) rfl _ (ndK p).toArray rfl rfl _ _ (HL.out.get 2 rfl) (rn_info _) rfl HOne.out ?_; intro w' b1 b2 b3; replace HL := Lib.hid (HL.out.store 2 rfl b1 b2 b3); clear b1 b2 b3; try simp only [List.nil_append, List.cons_append, List.set_cons_zero, List.set_cons_succ] at HL) | (refine wpList_load_rowG (by kernel_rfl) 114 (.tmp 7) rfl _ rfl _ _ _ _ (HL.out.get 2 rfl) Try.underlying114 rfl (rn_info p) ?_))
      refine (HF.out _ HL.out.aft).mono ?_
      rintro e5 w5 ⟨rfl, h5⟩
      replace HL := Lib.hid (HL.out.call h5)
      clear h5 HF
      by_cases hf : fstT e p.1 ≤ id
      · rw [if_pos hf] at HCh
        generalize fstT e p.1 = f at *
        go_wp2_with fail
        go_roundw
        case rel => exact ⟨i + 1, by omega, by go_num, by rw [HCh.out], HL.out.cut 2⟩
        case measure => simp [intOf]; omega
      · rw [if_neg hf] at HCh
        generalize fstT e p.1 = f at *
        go_wp2_with fail
        go_roundw
        case rel => exact ⟨i + 1, by omega, by go_num, by rw [HCh.out], HL.out.cut 2⟩
        case measure => simp [intOf]; omega
    · obtain rfl : i = ps.length := by omega
      have hlt' : ¬ ((ps.length : Nat) : Int) < (ps.length : Nat) := by omega
      have hca := HAt.out
      have HRx := Lib.hid (fun (wx : World) (ha : Aft w wx) => HRg.out _ hca wx ha)
      have HKx := Lib.hid (HKd.out _ hca)
      have HWx := Lib.hid (HWf.out _ hca)
      have HGx := Lib.hid (HGet.out (chP (fun f => decide (f ≤ id)) e (kidsT t) ps.length))
      have hc1 := cell_part (n := 1) (HL.out.get 0 rfl) (show _ = some (Value.slice (some ⟨g, o, none⟩) ps.length cap) from rfl)
      have hcc := HCap.out
      cases e with
      | zero =>
        have HWt := Lib.hid (show goneT id 0 t = grpT ((kidsT t).take (chP (fun f => decide (f ≤ id)) 0 (kidsT t) ps.length) ++ (kidsT t).drop (chP (fun f => decide (f ≤ id)) 0 (kidsT t) ps.length + 1)) by rw [HLen.out]; rfl)
        generalize chP (fun f => decide (f ≤ id)) 0 (kidsT t) ps.length = c at *
        have hc3 : (c : Int) ≤ 3 := by have := HL23.out; omega
        have hcl : (c : Int) < (ps.length : Nat) := by omega
        have hsl1 := fun wx => run_toK (ao := some ⟨g, o, none⟩) (len := ps.length) (cap := cap) (n := c) (by omega) wx
        obtain ⟨ax, hax⟩ : ∃ ax : Option Addr, ax = (if cap = c + 1 then some ⟨g, o, none⟩ else (some ⟨g, o, none⟩ : Option Addr).map (·.add ((c + 1) * 2))) := ⟨_, rfl⟩
        have hsl2 : ∀ wx, (Instr.slice 112 (.slice (some ⟨g, o, none⟩) ps.length cap) (some (.int .i64 ((c : Int) + 1))) none none).run Try.prog wx = .ok (.slice ax (ps.length - (c + 1)) (cap - (c + 1))) wx := fun wx => by
          rw [hax]
          exact run_fromK (n := c + 1) (by omega) wx
        have HT1 := Lib.hid (HR.out.to (n := c) (c := cap) (by omega) (by omega) (Nat.le_refl _))
        have HT2 := Lib.hid (show RdF 0 w B (.slice ax (ps.length - (c + 1)) (cap - (c + 1))) (ps.drop (c + 1)) by rw [hax]; exact HR.out.from (n := c + 1) (by omega))
        have hk0 : (ps.getD c (dfT 0, Value.slice none 0 0)).2 = .slice none 0 0 := HKx.out
        have hc2 := (HRx.out wr HL.out.aft) 1 (.slice none 0 0) (show some (ps.getD c (dfT 0, Value.slice none 0 0)).2 = some (.slice none 0 0) from congrArg some hk0)
        have hP1l : (ps.take c).length = c := by rw [List.length_take]; omega
        have hS1l : (ps.drop (c + 1)).length = ps.length - (c + 1) := List.length_drop
        have HP1 := Lib.hid (show (ps.take c).map Prod.fst = (kidsT t).take c by rw [← HPs.out, List.map_take])
        have HS1' := Lib.hid (show (ps.drop (c + 1)).map Prod.fst = (kidsT t).drop (c + 1) by rw [← HPs.out, List.map_drop])
        generalize ps.take c = P1 at *
        generalize ps.drop (c + 1) = S1 at *
        have HP1l := Lib.hid hP1l
        have HS1l := Lib.hid hS1l
        clear hax hcc hP1l hS1l hk0
        go_wp2_with (first | (at_builtin; refine wpList_appK rfl (.const (.slice none 0 0)) (.tmp 35) rfl w.heap.size B (.slice none 0 0) [] rfl (OwnF.nil 0 _ _ B) (fun g hg => (by cases hg)) _ P1 rfl (HT1.out.aft HL.out.aft).row (HT1.out.aft HL.out.aft).kid (by rw [HP1l.out]; simp only [List.length_nil]; omega) (Below.size HL.out.aft) ?_; intro v1 wA k1 k2 k3; have HO1 := Lib.hid (show OwnF 0 wA w.heap.size B v1 P1 from k1.out.monoB (fun _ hg _ => hg.1)); have HN1 := Lib.hid (show ∀ g, v1.ownBlock = some g → b1 < g from fun g hg => by (rcases k3.out g hg with e | e; cases e; rw [e]; exact heap_lt (HL.out.get 1 rfl))); replace HL := Lib.hid (led_two HL.out k2.out (fun g hg => (by cases hg)) (Nat.le_of_lt HS1.out) (Nat.le_refl _)); clear k1 k2 k3 hc1 hc2; have hc1 := (cell_part (n := 1) (HL.out.get 0 rfl) (show _ = some (Value.slice (some ⟨g, o, none⟩) ps.length cap) from rfl))) | (at_builtin; refine wpList_appK rfl (.tmp 37) (.tmp 42) rfl w.heap.size B _ P1 rfl HO1.out (fun g hg q => absurd (HBl.out g q) (Nat.not_lt.2 (HO1.out.row.lt g hg).1)) _ S1 rfl (HT2.out.aft HL.out.aft).row (HT2.out.aft HL.out.aft).kid (by rw [HP1l.out, HS1l.out]; have := HL23.out; omega) (Below.size HL.out.aft) ?_; intro v3 wB k1 k2 k3; obtain ⟨K3, hK3⟩ : ∃ K3, K3 = P1 ++ S1 := ⟨_, rfl⟩; rw [← hK3] at k1; obtain ⟨a3, c3, rfl⟩ := k1.out.shape; have HK3e := Lib.hid hK3; clear hK3; have HN3 := Lib.hid (show ∀ g, (Value.slice a3 K3.length c3).ownBlock = some g → b1 < g from fun g hg => by (rcases k3.out g hg with e | e; exact HN1.out g e; rw [e]; exact heap_lt (HL.out.get 1 rfl))); replace HL := Lib.hid (led_two HL.out k2.out HN1.out (Nat.le_of_lt HS1.out) (Nat.le_refl _)); have HK3 := Lib.hid (show Kd 1 wB (fun x => (B x ∨ w.heap.size ≤ x) ∧ x ≠ b1) (goneT id 0 t) (.slice a3 K3.length c3) from by (rw [HWt.out, ← HP1.out, ← HS1'.out, ← List.map_append, ← HK3e.out]; exact k1.out.rd.kd.mono (fun x hx _ => by (rcases hx with hx | hx; exact ⟨.inl hx.1, fun e => absurd (HBl.out x hx.1) (by rw [e]; exact Nat.not_lt.2 (Nat.le_of_lt HS1.out))⟩; exact ⟨.inr (Nat.le_of_lt (Nat.lt_trans HS1.out (HN3.out x hx))), Nat.ne_of_gt (HN3.out x hx)⟩)))); have HOne := Lib.hid HK3.out.one; clear k1 k2 k3 hc1) | (refine wpList_store_rowZ rfl 114 (.tmp 4) (.tmp 44) rfl _ (ndK (goneT id 0 t, Value.slice a3 K3.length c3)).toArray rfl rfl _ _ (HL.out.get 1 rfl) (rn_info _) rfl HOne.out ?_; intro w9 q1 q2 q3; have HK4 := Lib.hid (HK3.out.keep (fun x hx _ => q2.out x hx.2) (q3 0 _ (Nat.zero_le _) (Below.refl 0 _)).size); replace HL := Lib.hid (HL.out.store 1 rfl q1 q2 q3); clear q1 q2 q3; try simp only [List.nil_append, List.cons_append, List.set_cons_zero, List.set_cons_succ] at HL))
        refine bodyPost_ret (results_cell_row rfl _ _ _ 114 (ndK (goneT id 0 t, Value.slice a3 K3.length c3)).toArray (0, 0) _ rfl (HL.out.get 1 rfl) Try.underlying114 rfl (rn_info _)) rfl ?_
        exact ⟨_, rfl, HK4.out.mono (fun x hx _ => hx.1), HL.out.aft⟩
      | succ d =>
        have HWt := Lib.hid (show goneT id (d + 1) t = grpT (if (kidsT (goneT id d ((kidsT t).getD (chP (fun f => decide (f ≤ id)) (d + 1) (kidsT t) ps.length) (dfT (d + 1))))).length = 1 then mendT ((kidsT t).set (chP (fun f => decide (f ≤ id)) (d + 1) (kidsT t) ps.length) (goneT id d ((kidsT t).getD (chP (fun f => decide (f ≤ id)) (d + 1) (kidsT t) ps.length) (dfT (d + 1))))) (chP (fun f => decide (f ≤ id)) (d + 1) (kidsT t) ps.length) else (kidsT t).set (chP (fun f => decide (f ≤ id)) (d + 1) (kidsT t) ps.length) (goneT id d ((kidsT t).getD (chP (fun f => decide (f ≤ id)) (d + 1) (kidsT t) ps.length) (dfT (d + 1))))) by rw [HLen.out]; rfl)
        generalize chP (fun f => decide (f ≤ id)) (d + 1) (kidsT t) ps.length = c at *
        rw [← HGx.out] at HWt
        have hc3 : (c : Int) ≤ 3 := by have := HL23.out; omega
        have hcl : (c : Int) < (ps.length : Nat) := by omega
        generalize hpc : ps.getD c (dfT (d + 1), .slice none 0 0) = pc at *
        have HPc := Lib.hid hpc
        obtain ⟨tp, kp⟩ := pc
        obtain ⟨ka, kc, hkp⟩ := HKx.out.shape
        simp only at hkp
        have hn0 : ¬ (((kidsT tp).length : Nat) : Int) = 0 := by have := HWx.out.1; simp only at this; omega
        have hc2 := (HRx.out wr HL.out.aft) 1 kp rfl
        rw [hkp] at hc2
        have HKp := Lib.hid hkp
        generalize (kidsT tp).length = n0 at *
        have hps2 := HL23.out
        have hps9 : ps.length ≤ 3 := by omega
        clear hpc hkp hcc hps2
        go_wp2_with (first | (at_builtin; refine wpList_appK (d := d + 1) rfl (.const (.slice none 0 0)) (.tmp 46) rfl w.heap.size B (.slice none 0 0) [] rfl (OwnF.nil _ _ _ _) (fun k hk => by cases hk) _ ps rfl (HR.out.aft HL.out.aft).row (HR.out.aft HL.out.aft).kid (by show 0 + ps.length ≤ 1000000; omega) (Below.size HL.out.aft) ?_; intro v5 wA k1 k2 k3; obtain ⟨g5, c5, rfl, hc5⟩ := k1.out.nz (by show 0 < ps.length; omega); have HG5 := Lib.hid (show g5 = wr.heap.size from by (rcases k3.out g5 rfl with e | e; cases e; exact e)); have HN5 := Lib.hid (show b1 < g5 from by (rw [HG5.out]; exact heap_lt (HL.out.get 1 rfl))); have HO := Lib.hid (show OwnF (d + 1) wA w.heap.size (fun x => (B x ∨ w.heap.size ≤ x) ∧ x ≠ g5 ∧ x ≠ b1) (.slice (some ⟨g5, 0, none⟩) ps.length c5) ps from k1.out.monoB (fun x hx _ => by (have h1 := HBl.out x hx.1; have h2 := HS1.out; have h3 := HN5.out; exact ⟨.inl hx.1, by omega, by omega⟩))); have f5 := HO.out.rd.wat hca (dfT (d + 1), .slice none 0 0) wA (Aft.refl _); rw [HPc.out, Nat.zero_add] at f5; have HF5 := Lib.hid f5; replace HL := Lib.hid (led_two HL.out k2.out (fun g hg => (by cases hg)) (Nat.le_of_lt HS1.out) (Nat.le_refl _)); have HG6 := Lib.hid (show g5 < wA.heap.size from (HO.out.row.lt g5 rfl).2); clear k1 k2 k3 hc5 hc1 hc2 f5) | (refine wpList_load_mid2 (by kernel_rfl) 114 (.tmp 52) rfl _ _ rfl (ndK (tp, kp)) HF5.out _ Try.underlying114 rfl (rn_info2 _) ?_))
        refine (HIh.out d rfl tp kp B _ (HKx.out.aft HL.out.aft) HWx.out (fun g hg => Nat.lt_of_lt_of_le (HBl.out g hg) (Below.size HL.out.aft))).mono ?_
        rintro e5 wC ⟨k', rfl, hk', h5⟩
        have HK' := Lib.hid (show Kd (d + 1) wC (fun x => (B x ∨ w.heap.size ≤ x) ∧ x ≠ g5 ∧ x ≠ b1) (goneT id d tp) k' from hk'.mono (fun x hx _ => by
          have h2 := HS1.out
          have h3 := HN5.out
          have h4 := HG6.out
          rcases hx with hx | hx
          · have h1 := HBl.out x hx
            exact ⟨.inl hx, by omega, by omega⟩
          · exact ⟨.inr (by omega), by omega, by omega⟩))
        replace HL := Lib.hid (HL.out.call h5)
        replace HO := Lib.hid (HO.out.aft h5)
        obtain ⟨ka', kc', hks'⟩ := hk'.shape
        subst hks'
        have HSc := Lib.hid (Below.size h5)
        clear hk' h5
        have HN' := Lib.hid (show ∀ n', n' = (kidsT (goneT id d tp)).length → n' = (kidsT (goneT id d tp)).length from fun _ h => h)
        obtain ⟨n', hn'⟩ : ∃ n', n' = (kidsT (goneT id d tp)).length := ⟨_, rfl⟩
        have HNe := Lib.hid hn'
        rw [← hn'] at HWt HK' ⊢
        clear hn' HN'
        have HSG := Lib.hid (show ∀ (p : NT (d + 1) × Value), (ps.set c p).getD c (dfT (d + 1), .slice none 0 0) = p from fun p => by
          rw [List.getD_eq_getElem?_getD, List.getElem?_set_self hca]
          rfl)
        by_cases h1 : n' = 1
        · have hn1 : ((n' : Nat) : Int) = 1 := by omega
          have HN1 := Lib.hid h1
          rw [if_pos h1] at HWt
          clear h1
          go_wp2_with (first | (refine wpList_store_K rfl (.tmp 56) (.tmp 55) rfl w.heap.size (fun x => (B x ∨ w.heap.size ≤ x) ∧ x ≠ g5 ∧ x ≠ b1) g5 ps.length c5 ps c hca (goneT id d tp, .slice ka' n' kc') HO.out (fun h => h.2.1 rfl) rfl rfl HK'.out ?_; intro wD k1 k2; have HO2 := Lib.hid k1.out; replace HL := Lib.hid (led_two HL.out k2.out (fun x hx => by (obtain rfl : g5 = x := Option.some.inj hx; exact HN5.out)) (Nat.le_of_lt HS1.out) (Nat.le_refl _)); have f5 := HO2.out.rd.wat (i := c) (by rw [List.length_set]; exact hca) (dfT (d + 1), .slice none 0 0) wD (Aft.refl _); rw [HSG.out, Nat.zero_add] at f5; have hc5 := f5 1 (.slice ka' n' kc') rfl; clear k1 k2 f5))
          refine (rmend_any _ (ps.set c (goneT id d tp, .slice ka' n' kc')) c (fun x => ((B x ∨ w.heap.size ≤ x) ∧ x ≠ b1) ∧ x < wD.heap.size) wD (HO2.out.rd.mono (fun x hx hl => ⟨by
            rcases hx with hx | hx
            · exact ⟨hx.1, hx.2.2⟩
            · obtain rfl : g5 = x := Option.some.inj hx
              have h2 := HS1.out
              have h3 := HN5.out
              exact ⟨.inr (by omega), by omega⟩, hl⟩)) (fun g h => h.2) (by rw [List.length_set]; exact hca) (by rw [List.length_set]; have := HL23.out; omega) (by rw [List.length_set]; omega) (by
            rw [HSG.out]
            exact HNe.out.symm.trans HN1.out) (fun j hj hjc => by
            rw [List.length_set] at hj
            rw [List.getD_eq_getElem?_getD, List.getElem?_set_ne (Ne.symm hjc), ← List.getD_eq_getElem?_getD]
            exact (HWf.out j hj).1)).mono ?_
          rintro e6 w6 ⟨v6, qs, rfl, hq, hqt, h6⟩
          have HBd := Lib.hid (show b1 < wD.heap.size from heap_lt (HL.out.get 1 rfl))
          replace HL := Lib.hid (HL.out.call h6)
          obtain ⟨a6, c6, rfl, -, -⟩ := hq.shape
          have HK3 := Lib.hid (show Kd (d + 1 + 1) w6 (fun x => (B x ∨ w.heap.size ≤ x) ∧ x ≠ b1) (goneT id (d + 1) t) (.slice a6 qs.length c6) from by
            rw [HWt.out, ← HPs.out, show (ps.map Prod.fst).set c (goneT id d tp) = (ps.set c (goneT id d tp, Value.slice ka' n' kc')).map Prod.fst from (fst_set ps c (goneT id d tp, Value.slice ka' n' kc')).symm, ← hqt]
            exact hq.kd.mono (fun x hx _ => by
              have h2 := HS1.out
              have h3 := HBd.out
              rcases hx with hx | hx
              · exact hx.1
              · exact ⟨.inr (by omega), by omega⟩))
          have HOne := Lib.hid HK3.out.one
          clear hq hqt h6 hc5
          go_wp2_with (first | (refine wpList_store_rowZ rfl 114 (.tmp 4) (.tmp 68) rfl _ (ndK (goneT id (d + 1) t, Value.slice a6 qs.length c6)).toArray rfl rfl _ _ (HL.out.get 1 rfl) (rn_info _) rfl HOne.out ?_; intro w9 q1 q2 q3; have HK4 := Lib.hid (HK3.out.keep (fun x hx _ => q2.out x hx.2) (q3 0 _ (Nat.zero_le _) (Below.refl 0 _)).size); replace HL := Lib.hid (HL.out.store 1 rfl q1 q2 q3); clear q1 q2 q3; try simp only [List.nil_append, List.cons_append, List.set_cons_zero, List.set_cons_succ] at HL))
          refine bodyPost_ret (results_cell_row rfl _ _ _ 114 (ndK (goneT id (d + 1) t, Value.slice a6 qs.length c6)).toArray (0, 0) _ rfl (HL.out.get 1 rfl) Try.underlying114 rfl (rn_info _)) rfl ?_
          exact ⟨_, rfl, HK4.out.mono (fun x hx _ => hx.1), HL.out.aft⟩
        · have hn1 : ¬ ((n' : Nat) : Int) = 1 := by omega
          rw [if_neg h1] at HWt
          clear h1
          go_wp2_with (first | (refine wpList_store_K rfl (.tmp 56) (.tmp 55) rfl w.heap.size (fun x => (B x ∨ w.heap.size ≤ x) ∧ x ≠ g5 ∧ x ≠ b1) g5 ps.length c5 ps c hca (goneT id d tp, .slice ka' n' kc') HO.out (fun h => h.2.1 rfl) rfl rfl HK'.out ?_; intro wD k1 k2; have HO2 := Lib.hid k1.out; replace HL := Lib.hid (led_two HL.out k2.out (fun x hx => by (obtain rfl : g5 = x := Option.some.inj hx; exact HN5.out)) (Nat.le_of_lt HS1.out) (Nat.le_refl _)); have f5 := HO2.out.rd.wat (i := c) (by rw [List.length_set]; exact hca) (dfT (d + 1), .slice none 0 0) wD (Aft.refl _); rw [HSG.out, Nat.zero_add] at f5; have hc5 := f5 1 (.slice ka' n' kc') rfl; have HK3 := Lib.hid (show Kd (d + 1 + 1) wD (fun x => (B x ∨ w.heap.size ≤ x) ∧ x ≠ b1) (goneT id (d + 1) t) (Value.slice (some ⟨g5, 0, none⟩) ps.length c5) from by (rw [HWt.out, ← HPs.out, show (ps.map Prod.fst).set c (goneT id d tp) = (ps.set c (goneT id d tp, Value.slice ka' n' kc')).map Prod.fst from (fst_set ps c (goneT id d tp, Value.slice ka' n' kc')).symm]; exact HO2.out.rd.kd.mono (fun x hx _ => by (rcases hx with hx | hx; exact ⟨hx.1, hx.2.2⟩; obtain rfl : g5 = x := Option.some.inj hx; have h2 := HS1.out; have h3 := HN5.out; exact ⟨.inr (by omega), by omega⟩)))); have HOne := Lib.hid HK3.out.one; clear k1 k2 f5) | (refine wpList_store_rowZ rfl 114 (.tmp 4) (.tmp 68) rfl _ (ndK (goneT id (d + 1) t, Value.slice (some ⟨g5, 0, none⟩) ps.length c5)).toArray rfl rfl _ _ (HL.out.get 1 rfl) (rn_info _) rfl HOne.out ?_; intro w9 q1 q2 q3; have HK4 := Lib.hid (HK3.out.keep (fun x hx _ => q2.out x hx.2) (q3 0 _ (Nat.zero_le _) (Below.refl 0 _)).size); replace HL := Lib.hid (HL.out.store 1 rfl q1 q2 q3); clear q1 q2 q3; try simp only [List.nil_append, List.cons_append, List.set_cons_zero, List.set_cons_succ] at HL))
          refine bodyPost_ret (results_cell_row rfl _ _ _ 114 (ndK (goneT id (d + 1) t, Value.slice (some ⟨g5, 0, none⟩) ps.length c5)).toArray (0, 0) _ rfl (HL.out.get 1 rfl) Try.underlying114 rfl (rn_info _)) rfl ?_
          exact ⟨_, rfl, HK4.out.mono (fun x hx _ => hx.1), HL.out.aft⟩
theorem rwithout_any (id : Int) : ∀ (d : Nat) (t : NT (d + 1)) (k : Value) (B : Nat → Prop) (w : World), Kd (d + 1) w B t k → wfT (d + 1) t → (∀ g, B g → g < w.heap.size) → Calls Try.prog 80 #[.agg (ndK (t, k)).toArray, .int .i64 id] w (GoneSays id d t B w)
  | 0, t, k, B, w, hk, hw, hB => rwithout_step id 0 (fun d' h => absurd h (Nat.succ_ne_zero d').symm) t k B w hk hw hB
  | d + 1, t, k, B, w, hk, hw, hB => rwithout_step id (d + 1) (fun d' h => by
      obtain rfl : d = d' := Nat.succ.inj h
      exact rwithout_any id d) t k B w hk hw hB
end Go.Proofs.Ytfgammcefaomeaa
