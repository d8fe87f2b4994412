/- coterieref02.Bytes: words' bytes; and First. -/
import Derived.Test.YtifehfcgmodmaaaDoorRefPad
import Derived.Test.YtifehfcgmodmaaaDoorRefBlock
namespace Go.Proofs.YtifehfcgmodmaaaDoor
open Go Go.RowKit
def kRow (s : St) (m j : Nat) : Value := .int .u8 (bn (if j < m then (keyBytes s).getD j 0 else 0))
theorem wbytes_be (x : BitVec 32) : beL 4 x.toNat = wbytes x := by
  have := x.isLt
  simp only [beL, wbytes, Nat.pow_zero, Nat.div_one, Nat.pow_succ, Nat.one_mul]
  simp only [List.cons.injEq, and_true]
  refine ⟨?_, ?_, ?_, ?_⟩ <;> (apply BitVec.eq_of_toNat_eq; simp [Nat.shiftRight_eq_div_pow])
theorem keyBytes_at (s : St) : ∀ i n, i < 8 → n < 4 → (keyBytes s).getD (4 * i + n) 0 = (wbytes (s.at i)).getD n 0 := by
  intro i n hi hn
  match i, hi with
  | 0, _ | 1, _ | 2, _ | 3, _ | 4, _ | 5, _ | 6, _ | 7, _ => match n, hn with | 0, _ | 1, _ | 2, _ | 3, _ => rfl
theorem kRow_step (s : St) (i n : Nat) (hi : i < 8) (hn : n < 4) : ∀ j, j < 32 → (if j = 4 * i + n then Value.int .u8 (bn ((wbytes (s.at i)).getD n 0)) else kRow s (4 * i + n) j) = kRow s (4 * i + (n + 1)) j := by
  intro j _
  unfold kRow
  by_cases h : j = 4 * i + n
  · subst h; rw [if_pos rfl, if_pos (by omega), keyBytes_at s i n hi hn]
  · rw [if_neg h]
    by_cases h2 : j < 4 * i + n
    · rw [if_pos h2, if_pos (by omega)]
    · rw [if_neg h2, if_neg (by omega)]
theorem kRow_end {w : World} {g t : Nat} {s : St} (h : w.rowIs g t 32 (kRow s 32)) : w.heap[g]? = some (.cells (bv (keyBytes s)).toArray t (0, 0)) := by
  obtain ⟨cs, h1, h2, h3⟩ := h
  have hl : (keyBytes s).length = 32 := rfl
  rw [h1]
  congr 2
  apply Array.ext_getElem?
  intro i
  by_cases hi : i < 32
  · rw [h3 i hi]
    unfold kRow
    rw [if_pos hi]
    simp [bv, List.getD, List.getElem?_eq_getElem (show i < (keyBytes s).length by omega)]
  · rw [Array.getElem?_eq_none (by omega), Array.getElem?_eq_none (by rw [List.size_toArray, bv_length]; omega)]
theorem key0_at (i : Nat) (h : i < 32) : key0[i]? = some (.int .u8 0) := by
  have e : key0.toList = List.replicate 32 (.int .u8 0) := rfl
  rw [← Array.getElem?_toList, e, List.getElem?_replicate, if_pos h]
theorem kRow_start {w : World} {g t : Nat} (s : St) (h : w.heap[g]? = some (.cells key0 t (0, 0))) : w.rowIs g t 32 (kRow s 0) :=
  ⟨_, h, rfl, fun i hi => by
    unfold kRow
    rw [if_neg (by omega)]
    show key0[i]? = some (.int .u8 0)
    exact key0_at i hi⟩
set_option maxRecDepth 100000 in
set_option maxHeartbeats 2000000 in
theorem refKey_any (s : St) (w : World) :
    Calls Tryd.prog 65 #[.agg (stArr s)] w fun e w' => e = .returned (.agg (bv (keyBytes s)).toArray) ∧ Below w.heap.size w w' := by
  have H0 := Lib.hid (heap_alloc_new w (.cells (stArr s) 34))
  have HX := Lib.hid (fun (w1 : World) (o1 o2 : Obj) => Aft.get (Aft.trans (Aft.alloc w1 o1) (Aft.alloc _ o2)) (w := w1) (g := w.heap.size) (o := .cells (stArr s) 34 (0, 0)))
  go_enter Tryd.func65, Tryd.ntmps65
  go_wp2_with ((refine wpList_load_row rfl 34 (.tmp 1) rfl w.heap.size rfl 34 (stArr s) (0, 0) _ (HX.out _ _ _ H0.out) Tryd.underlying34 rfl (st_info s) ?_))
  obtain ⟨w4, hw4⟩ : ∃ w4 : World, w4 = ((w.alloc (.cells (stArr s) 34)).alloc (.cells key0 28)).alloc (.cells key0 28) := ⟨_, rfl⟩
  rw [show ((w.alloc (.cells (stArr s) 34)).alloc (.cells #[.int .u8 0, .int .u8 0, .int .u8 0, .int .u8 0, .int .u8 0, .int .u8 0, .int .u8 0, .int .u8 0, .int .u8 0, .int .u8 0, .int .u8 0, .int .u8 0, .int .u8 0, .int .u8 0, .int .u8 0, .int .u8 0, .int .u8 0, .int .u8 0, .int .u8 0, .int .u8 0, .int .u8 0, .int .u8 0, .int .u8 0, .int .u8 0, .int .u8 0, .int .u8 0, .int .u8 0, .int .u8 0, .int .u8 0, .int .u8 0, .int .u8 0, .int .u8 0] 28)).alloc (.cells #[.int .u8 0, .int .u8 0, .int .u8 0, .int .u8 0, .int .u8 0, .int .u8 0, .int .u8 0, .int .u8 0, .int .u8 0, .int .u8 0, .int .u8 0, .int .u8 0, .int .u8 0, .int .u8 0, .int .u8 0, .int .u8 0, .int .u8 0, .int .u8 0, .int .u8 0, .int .u8 0, .int .u8 0, .int .u8 0, .int .u8 0, .int .u8 0, .int .u8 0, .int .u8 0, .int .u8 0, .int .u8 0, .int .u8 0, .int .u8 0, .int .u8 0, .int .u8 0] 28) = w4 from hw4.symm]
  have HR4 := Lib.hid (kRow_start s (show w4.heap[w.heap.size + 1 + 1]? = some (.cells key0 28 (0, 0)) by rw [hw4]; have := heap_alloc_new ((w.alloc (.cells (stArr s) 34)).alloc (.cells key0 28)) (.cells key0 28); rwa [World.size_alloc, World.size_alloc] at this))
  have HO4 := Lib.hid (show w4.heap[w.heap.size + 1]? = some (.cells key0 28 (0, 0)) by rw [hw4]; refine Aft.get (Aft.alloc _ _) ?_; have := heap_alloc_new (w.alloc (.cells (stArr s) 34)) (.cells key0 28); rwa [World.size_alloc] at this)
  have HB4 := Lib.hid (show Aft w w4 by rw [hw4]; exact Aft.trans (Aft.alloc _ _) (Aft.trans (Aft.alloc _ _) (Aft.alloc _ _)))
  clear hw4
  go_loopw [9] (fun v9 wr => ∃ i : Nat, i ≤ 8 ∧ v9 = .int .i64 i ∧ wr.rowIs (w.heap.size + 1 + 1) 28 32 (kRow s (4 * i)) ∧ wr.heap[w.heap.size + 1]? = some (.cells key0 28 (0, 0)) ∧ Aft w wr) (fun v _ => 8 - (intOf v).toNat)
  case atStart => exact ⟨0, by omega, rfl, HR4.out, HO4.out, HB4.out⟩
  case round =>
    obtain ⟨i, hi, rfl, hrow, ho, hb⟩ := hrel
    have HRow := Lib.hid hrow
    have HO := Lib.hid ho
    have HB := Lib.hid hb
    clear hrow ho hb
    by_cases hlt : i < 8
    · have hlt' : (i : Int) < 8 := by omega
      have i0 := run_index_cells (P := Tryd.prog) (len := 8) (t := 34) (e := 33) (k := .u32) Tryd.underlying34 Tryd.underlying33 (by kernel_rfl) (i := i) hlt (stArr_at s i hlt)
      have HS := Lib.hid (kRow_step s i)
      have HWb := Lib.hid (wbytes_be (s.at i))
      have hwx : wn (s.at i) = (((s.at i).toNat : Nat) : Int) := rfl
      have hby := refBytes_any 4 (s.at i).toNat wr (by omega) (by have := (s.at i).isLt; omega)
      rw [HWb.out] at hby
      have HBy := Lib.hid hby
      clear hby
      go_wp2_with fail
      refine HBy.out.mono ?_
      rintro e w2 ⟨a2, c2, rfl, ho2, hb2⟩
      have HO2 := Lib.hid (Rd.of_own ho2)
      have HA2 := Lib.hid (show Aft wr w2 from hb2)
      have hOwn := Lib.hid fun g hg => (own_lt ho2 (g := g) hg).1
      clear ho2 hb2
      have hl4 : (bv (wbytes (s.at i))).length = 4 := rfl
      rw [hl4] at HO2 ⊢
      obtain ⟨g2, o2, rfl, -, -⟩ := Rd.some_of HO2.out (by rw [hl4]; decide)
      have HRow2 := Lib.hid (HRow.out.of_block (Below.block HA2.out _ HRow.out.lt))
      have HO22 := Lib.hid (Aft.get HA2.out HO.out)
      have HB2 := Lib.hid (Aft.trans HB.out HA2.out)
      have HRd2 := Lib.hid (show ∀ n, n < 4 → w2.cell? ⟨g2, o2 + n, none⟩ = some (.int .u8 (bn ((wbytes (s.at i)).getD n 0))) from fun n hn => HO2.out.cell_at (show n < (wbytes (s.at i)).length from hn))
      have HG2 := Lib.hid (show Rd w2 (.slice (some ⟨g2, o2, none⟩) 4 c2) (bv (wbytes (s.at i))) from HO2.out)
      have hkey : wr.heap.size ≤ g2 := hOwn.out g2 rfl
      have hkey2 : w.heap.size + 1 + 1 < g2 := by have := HRow.out.lt; omega
      have HKey := Lib.hid hkey2
      clear hkey hkey2 hOwn
      clear HRow HO HB HBy HA2 HO2
      go_wp2_with fail
      go_loopw [17] (fun v17 wx => ∃ n : Nat, n ≤ 4 ∧ v17 = .int .i64 n ∧ wx.rowIs (w.heap.size + 1 + 1) 28 32 (kRow s (4 * i + n)) ∧ wx.heap[w.heap.size + 1]? = some (.cells key0 28 (0, 0)) ∧ Aft w wx ∧ Rd wx (.slice (some ⟨g2, o2, none⟩) 4 c2) (bv (wbytes (s.at i)))) (fun v _ => 4 - (intOf v).toNat)
      case atStart => exact ⟨0, by omega, rfl, HRow2.out, HO22.out, HB2.out, HG2.out⟩
      case round =>
        clear HRow2 HO22 HB2 HG2
        obtain ⟨n, hn, rfl, hrow, ho, hb, hrd⟩ := hrel
        by_cases hlt2 : n < 4
        · have hlt2' : (n : Int) < 4 := by omega
          have hc := hrd.cell_at (show n < (wbytes (s.at i)).length from hlt2)
          have HRow := Lib.hid hrow
          have HO := Lib.hid ho
          have HB := Lib.hid hb
          have HRd := Lib.hid hrd
          have ix : (4 * (i : Int) + (n : Int)).toNat = 4 * i + n := by omega
          have ix1 : 4 * (i : Int) + (n : Int) < 32 := by omega
          have hcj := hrow.cell (i := 4 * i + n) (by omega)
          have hfj := hrow.frozen (4 * i + n)
          clear hrow ho hb hrd
          go_wp2_with fail
          go_roundw
          case rel =>
            exact ⟨n + 1, by omega, by go_num, (World.rowIs.set HRow.out _ _).congr (HS.out n hlt hlt2), (Below.heap_setCell _ _ _ _ (show w.heap.size + 1 ≠ w.heap.size + 1 + 1 by omega)).trans HO.out, aft_set HB.out (show w.heap.size ≤ w.heap.size + 1 + 1 by omega) _, HRd.out.setCell (fun g hg _ => by cases hg; have := HKey.out; simp only; omega) _⟩
          case measure => simp [intOf]; omega
        · obtain rfl : n = 4 := by omega
          have hlt2' : ¬ ((4 : Nat) : Int) < 4 := by omega
          have HRow := Lib.hid hrow
          have HO := Lib.hid ho
          have HB := Lib.hid hb
          clear hrow ho hb hrd
          go_wp2_with fail
          go_roundw
          case rel => exact ⟨i + 1, by omega, by go_num, by rw [show 4 * (i + 1) = 4 * i + 4 by omega]; exact HRow.out, HO.out, HB.out⟩
          case measure => simp [intOf]; omega
    · obtain rfl : i = 8 := by omega
      have hlt' : ¬ ((8 : Nat) : Int) < 8 := by omega
      have HE := Lib.hid (kRow_end HRow.out)
      have hs32 : (Tryd.prog.info? 28).map (·.size) = some (bv (keyBytes s)).toArray.size := by kernel_rfl
      have H32 := Lib.hid hs32
      have H1 := Lib.hid (show (bv (keyBytes s)).toArray.all (·.oneCell') = true by kernel_rfl)
      clear hs32
      go_wp2_with (first
        | (refine wpList_load_row rfl 28 (.tmp 3) rfl (w.heap.size + 1 + 1) rfl 28 (bv (keyBytes s)).toArray (0, 0) _ HE.out Tryd.underlying28 rfl H32.out ?_)
        | (refine wpList_store_rowX rfl 28 (.tmp 2) (.tmp 30) rfl (w.heap.size + 1) (bv (keyBytes s)).toArray rfl rfl 28 key0 HO.out H32.out (by kernel_rfl) H1.out ?_; intro wk q2 q3; have HKk := Lib.hid q2.out; have HBk := Lib.hid (q3 w.heap.size w (by omega) HB.out); clear q2 q3))
      refine bodyPost_ret (results_cell_row rfl _ _ (w.heap.size + 1) 28 (bv (keyBytes s)).toArray (0, 0) _ rfl HKk.out Tryd.underlying28 rfl H32.out) rfl ?_
      exact ⟨rfl, HBk.out⟩
end Go.Proofs.YtifehfcgmodmaaaDoor
