/- mac.Expand's own function: the next bytes. -/
import Derived.Test.YtifehfcgmodmaaaDoorMacKeys
namespace Go.Proofs.YtifehfcgmodmaaaDoor
open Go Go.RowKit
theorem bn_succ (t : BitVec 8) : IntKind.u8.wrap (bn t + 1) = bn (t + 1) := by
  have := t.isLt
  have h1 : (1 : BitVec 8).toNat = 1 := rfl
  unfold bn
  rw [IntKind.wrap_u8, BitVec.toNat_add, h1]
  omega
theorem RdAll.three {w : World} {v1 v2 v3 : Value} {g : Nat} {t : TypeId} {fr : Nat × Nat} {l1 l2 l3 : List (BitVec 8)} (hg : w.heap[g]? = some (.cells #[v1, v2, v3] t fr)) (h1 : Rd w v1 (bv l1)) (h2 : Rd w v2 (bv l2)) (h3 : Rd w v3 (bv l3)) : RdAll w (.slice (some ⟨g, 0, none⟩) 3 3) [l1, l2, l3] := by
  refine ⟨[v1, v2, v3], ⟨some ⟨g, 0, none⟩, 3, rfl, Nat.le_refl _, by omega, (fun h => by cases h), fun ad ha j u hu => ?_⟩, rfl, fun i u hu => ?_⟩
  · cases ha
    match j with
    | 0 => cases hu; simp [World.cell?, hg, Addr.add]
    | 1 => cases hu; simp [World.cell?, hg, Addr.add]
    | 2 => cases hu; simp [World.cell?, hg, Addr.add]
    | j + 3 => simp at hu
  · match i with
    | 0 => cases hu; exact h1
    | 1 => cases hu; exact h2
    | 2 => cases hu; exact h3
    | i + 3 => simp at hu
theorem one_cell_at {w : World} {g t : Nat} {v : Value} (h : w.heap[g]? = some (.cells #[v] t (0, 0))) : w.cell? ⟨g, 0, none⟩ = some v ∧ w.frozen? ⟨g, 0, none⟩ = false :=
  ⟨by rw [cell_of_row w g 0 _ _ _ h]; rfl, frozen_of_row w g 0 _ _ h⟩
theorem one_cell_set {w : World} {g t : Nat} {v : Value} (u : Value) (h : w.heap[g]? = some (.cells #[v] t (0, 0))) : (w.setCell ⟨g, 0, none⟩ u).heap[g]? = some (.cells #[u] t (0, 0)) := by
  rw [heap_setCell_same w g 0 _ _ u h]
  rfl
theorem rd_byte {w : World} {g t : Nat} {x : BitVec 8} {fr : Nat × Nat} (h : w.heap[g]? = some (.cells #[.int .u8 (bn x)] t fr)) : Rd w (.slice (some ⟨g, 0, none⟩) 1 1) (bv [x]) := by
  refine ⟨some ⟨g, 0, none⟩, 1, rfl, Nat.le_refl _, by omega, (fun h => by cases h), fun ad ha j u hu => ?_⟩
  cases ha
  match j with
  | 0 => cases hu; simp [World.cell?, h, Addr.add]
  | j + 1 => simp [bv] at hu
def moreS (B : Nat) (j : Nat) : Prop := j = B + 2 ∨ j = B + 3
attribute [local go_sem] bn_succ
set_option maxRecDepth 100000 in
set_option maxHeartbeats 2000000 in
theorem more_any (B : Nat) (k info T : List (BitVec 8)) (t : BitVec 8) (vi vl : Value) (w : World) (hK : TabK K0 1 w) (hB : 1 < B) (hk : k.length = 32)
    (h1 : w.heap[B]? = some (.cells (bv k).toArray 28 (0, 0))) (h2 : w.heap[B + 1]? = some (.cells #[vi] 25 (0, 0))) (h3 : w.heap[B + 2]? = some (.cells #[vl] 25 (0, 0))) (h4 : w.heap[B + 3]? = some (.cells #[.int .u8 (bn t)] 5 (0, 0)))
    (hi : Rd w vi (bv info)) (hl : Rd w vl (bv T)) (hvi : ∀ g, vi.ownBlock = some g → bv info ≠ [] → ¬ moreS B g) (hvl : ∀ g, vl.ownBlock = some g → ¬ moreS B g) (hil : info.length ≤ 1000000000) (hTl : T.length ≤ 32) :
    Calls Tryd.prog 71 #[.pointer (some ⟨B + 3, 0, none⟩), .pointer (some ⟨B, 0, none⟩), .pointer (some ⟨B + 2, 0, none⟩), .pointer (some ⟨B + 1, 0, none⟩)] w fun e w' =>
      ∃ g, e = .returned (.slice (some ⟨g, 0, none⟩) 32 32) ∧ w.heap.size ≤ g ∧ w'.heap[g]? = some (.cells (bv (macOf K0 k (T ++ (info ++ [t + 1])))).toArray 28 (0, 0)) ∧
        w'.heap[B + 2]? = some (.cells #[.slice (some ⟨g, 0, none⟩) 32 32] 25 (0, 0)) ∧ w'.heap[B + 3]? = some (.cells #[.int .u8 (bn (t + 1))] 5 (0, 0)) ∧ Fr (moreS B) w w' := by
  have HK := Lib.hid hK
  have H1 := Lib.hid h1
  have H2 := Lib.hid h2
  have H3 := Lib.hid h3
  have H4 := Lib.hid h4
  have HI := Lib.hid hi
  have HL := Lib.hid hl
  clear hK
  obtain ⟨c4, f4⟩ := one_cell_at h4
  obtain ⟨al, cl, rfl, -, -, -, -⟩ := hl
  obtain ⟨ai, ci, rfl, -, -, -, -⟩ := hi
  have HVI := Lib.hid hvi
  have HVL := Lib.hid hvl
  clear h1 h2 h3 h4 hvi hvl
  go_enter Tryd.func71, Tryd.ntmps71
  go_wp2_with fail
  have hb3 : ∀ j, j ≠ B + 3 → (w.setCell ⟨B + 3, 0, none⟩ (.int .u8 (bn (t + 1)))).heap[j]? = w.heap[j]? := fun j hj => Below.heap_setCell _ _ _ _ hj
  have H4a := Lib.hid (one_cell_set (.int .u8 (bn (t + 1))) H4.out)
  have H1a := Lib.hid ((hb3 B (by omega)).trans H1.out)
  have H2a := Lib.hid ((hb3 (B + 1) (by omega)).trans H2.out)
  have H3a := Lib.hid ((hb3 (B + 2) (by omega)).trans H3.out)
  have HIa := Lib.hid (HI.out.setCell (p := ⟨B + 3, 0, none⟩) (fun g hg hx => fun e => HVI.out g hg hx (.inr e)) (.int .u8 (bn (t + 1))))
  have HLa := Lib.hid (HL.out.setCell (p := ⟨B + 3, 0, none⟩) (fun g hg _ => fun e => HVL.out g hg (.inr e)) (.int .u8 (bn (t + 1))))
  have HFa := Lib.hid ((Fr.refl (moreS B) w).setCell (p := ⟨B + 3, 0, none⟩) (.inr rfl) (.int .u8 (bn (t + 1))))
  clear hb3
  show Code.wp _ _ _ _ (w.setCell ⟨B + 3, 0, none⟩ (.int .u8 (bn (t + 1))))
  generalize w.setCell ⟨B + 3, 0, none⟩ (.int .u8 (bn (t + 1))) = w1 at *
  have ht1 : t + 1#8 = t + 1 := rfl
  rw [ht1]
  generalize hT1 : t + 1 = t1 at *
  have HT1 := Lib.hid hT1
  clear hT1
  have hal := fun wx : World => run_sliceAt_key wx B
  have HKlen := Lib.hid hk
  have HIl := Lib.hid hil
  have HTl := Lib.hid hTl
  clear c4 f4 ht1 hk hil hTl
  refine wp_region_lexF (fun i => ([0, 0, 0, 0, 1, 1, 2, 1, 3] : List Nat).getD i 0) 9 (by kernel_rfl) (by kernel_rfl) ?_; intro wr hwr
  have HWr := Lib.hid (show Aft w1 wr by rw [hwr]; exact (Below.refl _ _).drew)
  clear hwr
  have L2 := fun u : Later wr.heap.size wr => (one_cell_at (Aft.get (Aft.trans HWr.out u.h) H3a.out)).1
  have L1 := fun u : Later wr.heap.size wr => (one_cell_at (Aft.get (Aft.trans HWr.out u.h) H2a.out)).1
  have L0 := fun u : Later wr.heap.size wr => (one_cell_at (Aft.get (Aft.trans HWr.out u.h) H4a.out)).1
  repeat (first | (refine lf_skip (by go_big_quiet_skip; exact wpQuiet_nil trivial) (by kernel_rfl) ?_; simp only [Act.put, List.setIfInBounds_toArray, List.set_cons_succ, List.set_cons_zero]) | (refine lf_quiet rfl (by go_big_quiet_want; exact quiet_false (by assumption)) (by kernel_rfl) rfl ?_; intro Kx hKx; go_big_quiet_op; go_big_quiet_on))
  refine lf_fresh (.cells #[.int .u8 (bn t1)] 5) (fun g => .slice (some ⟨g, 0, none⟩) 1 1) rfl (by kernel_rfl) (fun w1 => by kernel_rfl) ?_
  intro wa ga ha1 ha2 ha3
  simp only [Act.put, List.setIfInBounds_toArray, List.set_cons_succ, List.set_cons_zero]
  have HA3 := Lib.hid ha3
  have HRa := Lib.hid ha1
  clear ha1 ha2 ha3
  refine lf_fresh (.cells #[.slice al (bv T).length cl, .slice ai (bv info).length ci, .slice (some ⟨ga, 0, none⟩) 1 1] 25) (fun g => .slice (some ⟨g, 0, none⟩) 3 3) rfl (by kernel_rfl) (fun w1 => by kernel_rfl) ?_
  intro wb gb hb1 hb2 hb3
  simp only [Act.put, List.setIfInBounds_toArray, List.set_cons_succ, List.set_cons_zero]
  have HB3 := Lib.hid hb3
  have HAb := Lib.hid hb1
  clear hb1 hb2 hb3
  refine lf_eff rfl (by go_big_quiet_want; exact quiet_false (by assumption)) (by kernel_rfl) ?_
  intro wc hc Kx hKx
  have HAc := Lib.hid (Aft.trans HAb.out hc)
  have HRc := Lib.hid (Aft.trans HRa.out HAc.out)
  have H1c := Lib.hid (Aft.trans HWr.out HRc.out)
  have hm := mac_any (.slice (some ⟨B, 0, none⟩) 32 32) _ k [T, info, [t1]] wc (TabK_fr HK.out (HFa.out.trans (Fr.of_below H1c.out)) (fun h => by rcases h with h | h <;> omega)) (Rd.of_key (Aft.get H1c.out H1a.out) HKlen.out)
    (RdAll.three (Aft.get hc HB3.out) (HLa.out.grow H1c.out) (HIa.out.grow H1c.out) (rd_byte (Aft.get HAc.out HA3.out))) (by have := HKlen.out; omega) (by simp) (by have := HIl.out; have := HTl.out; simp; omega)
  rw [show ([T, info, [t1]] : List (List (BitVec 8))).flatten = T ++ (info ++ [t1]) by simp] at hm
  have hxl := macOf_length K0 k (T ++ (info ++ [t1]))
  generalize hX : macOf K0 k (T ++ (info ++ [t1])) = X at *
  have HX := Lib.hid hX
  clear hX
  have HM := Lib.hid hm
  have HXL := Lib.hid hxl
  clear hm hxl hc
  go_wp2_with fail
  refine HM.out.mono ?_
  rintro e wd ⟨rfl, hd⟩
  go_wp2_with fail
  refine ⟨hd, ?_⟩
  have HRd := Lib.hid (Aft.trans HRc.out hd)
  clear hd
  refine lf_fresh (.cells key0 28) (fun g => .pointer (some ⟨g, 0, none⟩)) rfl (by kernel_rfl) (fun w1 => by kernel_rfl) ?_
  intro we ge he1 he2 he3
  simp only [Act.put, List.setIfInBounds_toArray, List.set_cons_succ, List.set_cons_zero]
  have HRe := Lib.hid (Aft.trans HRd.out he1)
  have hxs : (bv X).toArray.size = 32 := by rw [List.size_toArray, bv_length, HXL.out]
  refine lf_store rfl (by kernel_rfl) 28 (.tmp 5) (.tmp 14) rfl ge (bv X).toArray rfl rfl _ key0 HRe.out he2 he3 (by rw [hxs]; kernel_rfl) (by rw [hxs]; rfl) (Array.all_eq_true_iff_forall_mem.2 fun u hu => bv_one X u (by simpa using hu)) ?_
  intro wf hf1 hf2 hf3
  simp only [Act.put]
  refine lf_done ?_
  intro wg hg
  have HRg := Lib.hid (Aft.trans hf2 hg)
  have HKg := Lib.hid (Aft.get hg hf1.out)
  have H1g := Lib.hid (Aft.trans HWr.out HRg.out)
  have H3g := Lib.hid (Aft.get H1g.out H3a.out)
  have H4g := Lib.hid (Aft.get H1g.out H4a.out)
  obtain ⟨c3, f3⟩ := one_cell_at H3g.out
  have hal2 := fun wx : World => run_sliceAt_key wx ge
  have HE2 := Lib.hid (show w1.heap.size ≤ ge by have := Below.size HWr.out; omega)
  clear hf1 hf2 hf3 hg he1 he2 he3 hxs
  go_wp2_with fail
  have hl3 := heap_lt H3a.out
  have hE := HE2.out
  go_ret
  refine ⟨ge, rfl, Nat.le_trans HFa.out.size hE, ?_, one_cell_set _ H3g.out, ?_, ?_⟩
  · rw [HT1.out, HX.out]; exact (Below.heap_setCell _ _ _ _ (show ge ≠ B + 2 by omega)).trans HKg.out
  · rw [HT1.out]; exact (Below.heap_setCell _ _ _ _ (show B + 3 ≠ B + 2 by omega)).trans H4g.out
  · exact (HFa.out.trans (Fr.of_below H1g.out)).setCell (p := ⟨B + 2, 0, none⟩) (.inl rfl) _
end Go.Proofs.YtifehfcgmodmaaaDoor
