/- coterielaw24.live answers true; inList. -/
import Derived.Test.YtfgammcefaomeaaK12
namespace Go.Proofs.Ytfgammcefaomeaa
open Go Go.RowKit
set_option linter.unusedSimpArgs false
theorem run_ints2K (x y : Int) (w : World) : (Instr.buildSlice 22 2 #[(0, .int .i64 x), (1, .int .i64 y)]).run Try.prog w = .ok (.slice (some ⟨w.heap.size, 0, none⟩) 2 2) (w.alloc (.cells #[.int .i64 x, .int .i64 y] 3)) := by kernel_rfl
theorem wpList_ints2K {ops : Array Oper} {rest : List Oper} {o : Oper} {a : Act} {w : World} {Q : Exit → Act → World → Prop} (hw : Region.wanted o (yielded ops a.tmps) = true) (y1 y2 : Operand) (x1 x2 : Int) (ho : o.op = .buildSlice 22 2 #[(0, y1), (1, y2)]) (hy : a.eval y1 = .int .i64 x1) (hz : a.eval y2 = .int .i64 x2)
    (h : ∀ w', Aft w w' → Hid (OwnI w' w.heap.size (.slice (some ⟨w.heap.size, 0, none⟩) 2 2) [x1, x2]) → wpList Try.prog ops Q rest (a.put o.dst (.slice (some ⟨w.heap.size, 0, none⟩) 2 2)) w') : wpList Try.prog ops Q (o :: rest) a w := by
  unfold wpList
  rw [if_pos hw]
  refine .inl (wp_noOut ?_)
  unfold Oper.wp execOp
  simp only [ho, hy, hz, Sem.run_bind, List.map_toArray, List.map_cons, List.map_nil, run_ints2K x1 x2 w, Result.andThen_ok, Sem.run_pure]
  exact h _ (Aft.alloc w _) (Lib.hid (own_blk (xs := zv [x1, x2]) (heap_alloc_new w _) (Nat.le_refl _) (show 2 ≤ maxLen by decide)))
def liveN : List Rl := [⟨[1], 2⟩, ⟨[2, 3], 4⟩]
def liveR (v2 v3 : Value) : List (Rl × Value) := [(⟨[1], 2⟩, v2), (⟨[2, 3], 4⟩, v3)]
theorem live_ok : ClOk [1] liveN := by
  refine ⟨by decide, fun x hx => ?_, fun r hr => ?_⟩
  · rw [List.mem_singleton.1 hx]
    unfold inB
    decide
  · simp only [liveN, List.mem_cons, List.not_mem_nil, or_false] at hr
    rcases hr with rfl | rfl
    · refine ⟨fun x hx => ?_, by unfold inB; decide⟩
      rw [List.mem_singleton.1 hx]
      unfold inB
      decide
    · refine ⟨fun x hx => ?_, by unfold inB; decide⟩
      simp only [List.mem_cons, List.not_mem_nil, or_false] at hx
      rcases hx with rfl | rfl <;> (unfold inB; decide)
theorem live_rch (x : Int) : Rch [1] liveN x ↔ x ∈ [(1 : Int), 2] := by
  constructor
  · refine Rch.least (S := fun x => x ∈ [(1 : Int), 2]) (fun y hy => by rw [List.mem_singleton.1 hy]; decide) (fun r hr ha => ?_)
    simp only [liveN, List.mem_cons, List.not_mem_nil, or_false] at hr
    rcases hr with rfl | rfl
    · decide
    · exact absurd (ha 3 (by decide)) (by decide)
  · intro hx
    have h1 : Rch [1] liveN 1 := .base (by decide)
    simp only [List.mem_cons, List.not_mem_nil, or_false] at hx
    rcases hx with rfl | rfl
    · exact h1
    · exact Rch.step (r := ⟨[1], 2⟩) (by simp [liveN]) fun y hy => by rw [List.mem_singleton.1 hy]; exact h1
set_option maxRecDepth 100000 in
set_option maxHeartbeats 2000000 in
theorem live24_any (w : World) : Calls Try.prog 25 #[] w fun e w' => e = .returned (.bool true) ∧ Aft w w' := by
  go_enter Try.func25, Try.ntmps25
  go_wp2_with (first | (refine wpList_dstT 4 rfl ?_; refine wpList_intSlice (by kernel_rfl) (.const (.int .i64 1)) 1 rfl rfl ?_; intro w1 a1 g1) | (refine wpList_dstT 5 rfl ?_; refine wpList_intSlice (by kernel_rfl) (.const (.int .i64 1)) 1 rfl rfl ?_; intro w2 a2 g2) | (refine wpList_dstT 7 rfl ?_; refine wpList_ints2K (by kernel_rfl) (.const (.int .i64 2)) (.const (.int .i64 3)) 2 3 rfl rfl rfl ?_; intro w3 a3 g3))
  obtain ⟨w4, hw4⟩ : ∃ w4, w4 = w3.alloc (.cells #[.slice (some ⟨w1.heap.size, 0, none⟩) 1 1, .int .i64 2, .slice (some ⟨w2.heap.size, 0, none⟩) 2 2, .int .i64 4] 58) := ⟨_, rfl⟩
  rw [← hw4]
  have a4 : Aft w3 w4 := by rw [hw4]; exact Aft.alloc w3 _
  have g4 : w4.heap[w3.heap.size]? = some (.cells [.slice (some ⟨w1.heap.size, 0, none⟩) 1 1, .int .i64 2, .slice (some ⟨w2.heap.size, 0, none⟩) 2 2, .int .i64 4].toArray 58 (0, 0)) := by rw [hw4]; exact heap_alloc_new w3 _
  have HA := Lib.hid (Aft.trans (Aft.trans (Aft.trans a1 a2) a3) a4)
  have r1 : Rd w4 _ (zv [1]) := (one_own (w := w) g1.out (Nat.le_refl _)).rd.grow (Aft.trans (Aft.trans a2 a3) a4)
  have r2 : Rd w4 _ (zv [1]) := (one_own (w := w1) g2.out (Nat.le_refl _)).rd.grow (Aft.trans a3 a4)
  have r3 : Rd w4 _ (zv [2, 3]) := g3.out.rd.grow a4
  have HR : RdRl w4 (.slice (some ⟨w3.heap.size, 0, none⟩) 2 2) (liveR (.slice (some ⟨w1.heap.size, 0, none⟩) 1 1) (.slice (some ⟨w2.heap.size, 0, none⟩) 2 2)) := by
    refine ⟨⟨fun r hr => ?_, .inr ⟨w3.heap.size, 0, 2, rfl, Nat.le_refl 2, by decide, heap_lt g4, fun i hi => ?_⟩⟩, fun p hp => ?_⟩
    · simp only [rlRs, liveR, List.map_cons, List.map_nil, List.mem_cons, List.not_mem_nil, or_false] at hr
      rcases hr with rfl | rfl
      · exact ⟨rfl, rlR_one⟩
      · exact ⟨rfl, rlR_one⟩
    · have hi2 : i < 2 := hi
      intro j u hu
      have hj : j < 2 := by
        have h1 := (List.getElem?_eq_some_iff.1 hu).1
        match i, hi2 with
        | 0, _ => exact h1
        | 1, _ => exact h1
      match i, j, hi2, hj with
      | 0, 0, _, _ => cases hu; exact cell_part (n := 0) g4 rfl
      | 0, 1, _, _ => cases hu; exact cell_part (n := 1) g4 rfl
      | 1, 0, _, _ => cases hu; exact cell_part (n := 2) g4 rfl
      | 1, 1, _, _ => cases hu; exact cell_part (n := 3) g4 rfl
    · simp only [liveR, List.mem_cons, List.not_mem_nil, or_false] at hp
      rcases hp with rfl | rfl
      · exact r2
      · exact r3
  clear hw4 a1 a2 a3 a4 g1 g2 g3 g4 r2 r3
  refine (tclose_any _ _ [1] _ w4 r1 HR (show 1 ≤ 1000 by decide) (.inl (show 2 ≤ 300 by decide)) (fun _ p hp => by
    simp only [liveR, List.mem_cons, List.not_mem_nil, or_false] at hp
    rcases hp with rfl | rfl
    · exact (show 1 ≤ 17592186044415 by decide)
    · exact (show 2 ≤ 17592186044415 by decide))).mono ?_
  rintro e w5 (⟨-, v, l, rfl, hv, hr, hl, ha⟩ | ⟨hn, -, -⟩)
  · obtain rfl : l = [1, 2] := rise_eq hr (by decide) fun z => (hl z).trans (live_rch z)
    have HV := Lib.hid hv
    replace HA := Lib.hid (Aft.trans HA.out ha)
    obtain ⟨va, vc, rfl, -, -⟩ := hv.numS
    clear hv ha hr hl HR r1
    go_wp2_with (first | (refine wpList_dstT 17 rfl ?_; refine wpList_ints2K (by kernel_rfl) (.const (.int .i64 1)) (.const (.int .i64 2)) 1 2 rfl rfl rfl ?_; intro w6 a6 g6; have HA6 := Lib.hid (Aft.trans HA.out a6); have HV6 := Lib.hid (HV.out.grow a6); have HG6 := Lib.hid g6.out.rd; clear a6 g6))
    refine (sameInts_any _ _ [1, 2] [1, 2] w6 HV6.out HG6.out (by decide)).mono ?_
    rintro e w7 ⟨rfl, h7⟩
    have HA7 := Lib.hid (Aft.trans HA6.out h7)
    clear h7
    go_wp2_with fail
    go_ret
    exact ⟨rfl, HA7.out⟩
  · exact absurd live_ok hn
set_option maxRecDepth 100000 in
set_option maxHeartbeats 1000000 in
theorem tinList_any (v : Value) (y : Int) (xs : List Int) (w : World) (h : Rd w v (zv xs)) (hl : xs.length ≤ 9223372036854775000) :
    Calls Try.prog 29 #[v, .int .i64 y] w fun e w' => e = .returned (.bool (decide (y ∈ xs))) ∧ w' = w := by
  obtain ⟨ao, cap, rfl, -, -⟩ := h.numS
  have HR := Lib.hid h
  have HB := Lib.hid (show (∃ i, i < xs.length ∧ xs.getD i 0 = y) → y ∈ xs from fun ⟨i, hi, e⟩ => by
    rw [← e, List.getD_eq_getElem?_getD, List.getElem?_eq_getElem hi]
    exact List.getElem_mem hi)
  have HN := Lib.hid (show (∀ i, i < xs.length → xs.getD i 0 ≠ y) → y ∉ xs from fun hn hm => by
    obtain ⟨i, hi, e⟩ := List.getElem_of_mem hm
    refine hn i hi ?_
    rw [List.getD_eq_getElem?_getD, List.getElem?_eq_getElem hi]
    exact e)
  clear h
  go_enter Try.func29, Try.ntmps29
  go_wp2_with fail
  go_loopw [9] (fun v9 wr => ∃ i : Nat, i ≤ xs.length ∧ v9 = .int .i64 (i : Int) ∧ (∀ j, j < i → xs.getD j 0 ≠ y) ∧ wr = w) (fun v _ => xs.length - (intOf v).toNat)
  case atStart => exact ⟨0, Nat.zero_le _, rfl, fun j hj => absurd hj (Nat.not_lt_zero _), rfl⟩
  case round =>
    obtain ⟨i, hi, rfl, hn, rfl⟩ := hrel
    have HM := Lib.hid hn
    clear hn
    by_cases hlt : i < xs.length
    · have hlt' : (i : Int) < (xs.length : Nat) := by omega
      obtain ⟨b, o, rfl, -, -⟩ := HR.out.some_of (by rw [zv_length]; omega)
      have hc := HR.out.num_at hlt
      by_cases he : xs.getD i 0 = y
      · have HI := Lib.hid (HB.out ⟨i, hlt, he⟩)
        rw [he] at hc
        go_wp2_with fail
        go_ret
        exact ⟨by rw [decide_eq_true HI.out]; rfl, rfl⟩
      · have HS := Lib.hid (show ∀ j, j < i + 1 → xs.getD j 0 ≠ y from fun j hj => by
          by_cases e : j = i
          · subst e; exact he
          · exact HM.out j (by omega))
        generalize xs.getD i 0 = z at *
        go_wp2_with fail
        go_roundw
        case rel => exact ⟨i + 1, by omega, by go_num, HS.out, trivial⟩
        case measure => simp [intOf]; omega
    · obtain rfl : i = xs.length := by omega
      have hlt' : ¬ ((xs.length : Nat) : Int) < (xs.length : Nat) := by omega
      have HI := Lib.hid (HN.out HM.out)
      go_wp2_with fail
      go_ret
      exact ⟨by rw [decide_eq_false HI.out]; rfl, rfl⟩
end Go.Proofs.Ytfgammcefaomeaa
