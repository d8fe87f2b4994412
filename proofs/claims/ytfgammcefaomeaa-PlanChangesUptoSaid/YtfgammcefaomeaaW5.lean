/- coterieref10: first, with. -/
import Derived.Test.YtfgammcefaomeaaW4
import Derived.Test.YtfgammcefaomeaaB4
import Derived.Deep.Cut
namespace Go.Proofs.Ytfgammcefaomeaa
open Go Go.RowKit
set_option linter.unusedSimpArgs false
theorem least_ex {p : Nat → Prop} : (∃ n, p n) → ∃ n, p n ∧ ∀ m, p m → n ≤ m := by
  rintro ⟨n, hn⟩
  induction n using Nat.strongRecOn with
  | _ n ih =>
    by_cases h : ∃ m, m < n ∧ p m
    · obtain ⟨m, hm, hp⟩ := h
      exact ih m hm hp
    · exact ⟨n, hn, fun m hm => Nat.le_of_not_lt fun q => h ⟨m, q, hm⟩⟩
open Classical in
/-- The least number of which something holds. -/
noncomputable def leastN (p : Nat → Prop) : Nat := if h : ∃ n, p n then Classical.choose (least_ex h) else 0
theorem leastN_is {p : Nat → Prop} (h : ∃ n, p n) : p (leastN p) := by
  unfold leastN
  rw [dif_pos h]
  exact (Classical.choose_spec (least_ex h)).1
theorem leastN_le {p : Nat → Prop} {n : Nat} (h : p n) : leastN p ≤ n := by
  unfold leastN
  rw [dif_pos ⟨n, h⟩]
  exact (Classical.choose_spec (least_ex ⟨n, h⟩)).2 n h
theorem box_rn (L : List Value) (w : World) : (Instr.box 114 (.agg L.toArray)).run Try.prog w = .ok (.pointer (some ⟨w.heap.size, 0, none⟩)) (w.alloc (.cells L.toArray 114)) := rfl
theorem alloc_rn (w : World) : (Instr.alloc 114 true (.tuple #[])).run Try.prog w = .ok (.pointer (some ⟨w.heap.size, 0, none⟩)) (w.alloc (.cells [.int .i64 0, .slice none 0 0].toArray 114)) := by kernel_rfl
theorem rn_info {d : Nat} (p : NT d × Value) : (Try.prog.info? 114).map (·.size) = some (ndK p).toArray.size := by kernel_rfl
theorem rn_info2 {d : Nat} (p : NT d × Value) : (Try.prog.info? 114).map (·.size) = some (ndK p).length := by kernel_rfl
theorem Kd.one {d : Nat} {w : World} {B : Nat → Prop} {t : NT d} {k : Value} (h : Kd d w B t k) : (ndK (t, k)).toArray.all (·.oneCell') = true := by
  have : ∃ ao n cap, k = .slice ao n cap := by
    cases d with
    | zero => exact ⟨none, 0, 0, h⟩
    | succ d =>
      obtain ⟨ao, cap, e⟩ := h.shape
      exact ⟨ao, _, cap, e⟩
  obtain ⟨ao, n, cap, rfl⟩ := this
  refine all_one fun u hu => ?_
  simp only [ndK, List.mem_cons, List.not_mem_nil, or_false] at hu
  rcases hu with rfl | rfl <;> rfl
def FstP (w : World) (B : Nat → Prop) (z : Int) (wr : World) (d : Nat) : Prop := ∃ (t : NT d) (k : Value), Kd d w B t k ∧ wfT d t ∧ fstT d t = z ∧ Led w wr [(w.heap.size, .cells (ndK (t, k)).toArray 114)]
set_option maxRecDepth 100000 in
set_option maxHeartbeats 1000000 in
theorem rfirst_any (d : Nat) (t : NT d) (k : Value) (B : Nat → Prop) (w : World) (hk : Kd d w B t k) (hw : wfT d t) :
    Calls Try.prog 93 #[.agg (ndK (t, k)).toArray] w fun e w' => e = .returned (.int .i64 (fstT d t)) ∧ Aft w w' := by
  have HK := Lib.hid hk
  have HW := Lib.hid hw
  have HL := Lib.hid (Led.start w)
  clear hk hw
  go_enter Try.func93, Try.ntmps93
  go_wp2_with (first | (refine wpList_boxO rfl 114 (.tmp 0) rfl (.agg (ndK (t, k)).toArray) rfl (.cells (ndK (t, k)).toArray 114) (box_rn _) ?_; intro w1 aa gg zz; replace HL := Lib.hid (HL.out.alloc aa gg.out); clear aa gg zz; try simp only [List.nil_append, List.cons_append, List.set_cons_zero, List.set_cons_succ] at HL))
  go_loopw [6] (fun _ wr => ∃ d', FstP w B (fstT d t) wr d') (fun _ wr => leastN (FstP w B (fstT d t) wr))
  case atStart => exact ⟨d, t, k, HK.out, HW.out, rfl, HL.out⟩
  case round =>
    clear HL
    have hex := hrel
    have hl := leastN_is hex
    generalize hm : leastN (FstP w B (fstT d t) wr) = m at *
    clear hm hex hrel
    obtain ⟨t2, k2, hk2, hw2, hf2, hL⟩ := hl
    have HL := Lib.hid hL
    have HF := Lib.hid hf2
    have HK2 := Lib.hid hk2
    clear hL hf2
    have hc1 := cell_part (n := 1) (HL.out.get 0 rfl) (show _ = some k2 from rfl)
    have hc0 := cell_part (n := 0) (HL.out.get 0 rfl) (show _ = some (Value.int .i64 (idT m t2)) from rfl)
    cases m with
    | zero =>
      obtain rfl : k2 = .slice none 0 0 := hk2
      have HE := Lib.hid (show idT 0 t2 = fstT d t from HF.out)
      rw [HE.out] at hc0
      clear hw2
      go_wp2_with fail
      go_ret
      exact ⟨rfl, HL.out.aft⟩
    | succ m =>
      obtain ⟨ps, hps, hr⟩ := hk2.rdF
      have hlen : ps.length = (kidsT t2).length := by rw [← hps, List.length_map]
      have hpos : 0 < ps.length := by rw [hlen]; have := hw2.1; omega
      obtain ⟨g, o, cap, rfl, -, hrg, hkd⟩ := hr.at hpos (dfT m, .slice none 0 0)
      have hst : (ps.getD 0 (dfT m, .slice none 0 0)).1 = (kidsT t2).getD 0 (dfT m) := by
        rw [← hps, List.getD_eq_getElem?_getD, List.getD_eq_getElem?_getD, List.getElem?_map, List.getElem?_eq_getElem hpos]
        rfl
      have HRg := Lib.hid (hrg wr HL.out.aft)
      have HKd := Lib.hid hkd
      have HW3 := Lib.hid (show wfT m (ps.getD 0 (dfT m, .slice none 0 0)).1 by
        rw [hst]
        refine hw2.2 _ ?_
        rw [List.getD_eq_getElem?_getD, List.getElem?_eq_getElem (by rw [← hlen]; exact hpos)]
        exact List.getElem_mem _)
      have HF3 := Lib.hid (show fstT m (ps.getD 0 (dfT m, .slice none 0 0)).1 = fstT d t by rw [hst, ← HF.out]; rfl)
      have hpos2 : (0 : Int) < (ps.length : Nat) := by omega
      generalize ps.getD 0 (dfT m, .slice none 0 0) = p at *
      obtain ⟨t3, k3⟩ := p
      clear hw2 hk2 hr hrg hkd hst hps hlen hc0
      go_wp2_with (first | (refine wpList_load_mid2 (by kernel_rfl) 114 (.tmp 9) rfl _ _ rfl (ndK (t3, k3)) HRg.out _ Try.underlying114 rfl (rn_info2 _) ?_) | (refine wpList_store_rowZ rfl 114 (.tmp 1) (.tmp 10) rfl _ (ndK (t3, k3)).toArray rfl rfl _ _ (HL.out.get 0 rfl) (rn_info _) rfl HKd.out.one ?_; intro w' b1 b2 b3; replace HL := Lib.hid (HL.out.store 0 rfl b1 b2 b3); clear b1 b2 b3; try simp only [List.set_cons_zero] at HL))
      go_roundw
      case rel => exact ⟨m, t3, k3, HKd.out, HW3.out, HF3.out, HL.out⟩
      case measure =>
        exact Nat.lt_succ_of_le (leastN_le ⟨t3, k3, HKd.out, HW3.out, HF3.out, HL.out⟩)
end Go.Proofs.Ytfgammcefaomeaa
