import Derived.Test.YtifehfcgmodmaaaDoorSumAll
namespace Go.Proofs.YtifehfcgmodmaaaDoor
open Go Go.RowKit
theorem chk_cases (s : St) (N n : Nat) : chk s N n = 0 ∨ chk s N n = 1 := by unfold chk; split <;> simp
theorem chk_ok {s : St} {N n : Nat} (h : chk s N n = 0) : N ≤ 1099511627776 ∧ n = N % 64 ∧ (N < 64 → s = iv) := by
  unfold chk at h
  split at h
  · cases h
  · rename_i hh
    simp only [not_or, not_and, Decidable.not_not] at hh
    exact ⟨by omega, hh.2.1, hh.2.2⟩
theorem chk_N {s : St} {N n : Nat} (h : chk s N n = 0) : N ≤ 1099511627776 := (chk_ok h).1
theorem wpList_store_rowX {P : Program} {ops : Array Oper} {rest : List Oper} {o : Oper} {a : Act} {w : World} {Q : Exit → Act → World → Prop} (hgd : o.guard = none) (ty : TypeId) (x y : Operand) (ho : o.op = .store ty x y)
    (g : Nat) (cells : Array Value) (hx : a.eval x = .pointer (some ⟨g, 0, none⟩)) (hy : a.eval y = .agg cells)
    (t : TypeId) (old : Array Value) (hg : w.heap[g]? = some (.cells old t (0, 0))) (hi : (P.info? ty).map (·.size) = some cells.size)
    (hold : old.size = cells.size) (h1 : cells.all (·.oneCell') = true)
    (h : ∀ w', Hid (w'.heap[g]? = some (.cells cells t (0, 0))) → (∀ k w0, k ≤ g → Below k w0 w → Below k w0 w') → wpList P ops Q rest (a.put o.dst undef) w') : wpList P ops Q (o :: rest) a w :=
  wpList_store_row hgd ty x y ho g cells hx hy t old hg hi hold h1 (h _ (show _ = _ from setRow_heap _ _ _ _ _ _ hg) fun _ _ hk hb => below_setRow hb hk _)
theorem wpList_store_key0 {ops : Array Oper} {rest : List Oper} {o : Oper} {a : Act} {w : World} {Q : Exit → Act → World → Prop} (hgd : o.guard = none) (x y : Operand) (ho : o.op = .store 28 x y)
    (g : Nat) (hx : a.eval x = .pointer (some ⟨g, 0, none⟩)) (hy : a.eval y = .agg key0)
    (hg : w.heap[g]? = some (.cells key0 28 (0, 0)))
    (h : ∀ w', Hid (w'.heap[g]? = some (.cells key0 28 (0, 0))) → (∀ k w0, k ≤ g → Below k w0 w → Below k w0 w') → wpList Tryd.prog ops Q rest (a.put o.dst undef) w') : wpList Tryd.prog ops Q (o :: rest) a w :=
  wpList_store_rowX hgd _ x y ho g key0 hx hy _ key0 hg (by kernel_rfl) rfl (by kernel_rfl) h
theorem results_cell_tmp {P : Program} {fn : Func} {p q : Tmp} {ty : TypeId} (h : fn.results = #[.cell p ty, .tmp q]) (tmps : Array Value) (w : World) (g : Nat) (t : TypeId) (cs : Array Value) (fr : Nat × Nat) (d : TypeDesc)
    (hp : tmps.getD p undef = .pointer (some ⟨g, 0, none⟩)) (hg : w.heap[g]? = some (.cells cs t fr))
    (hu : P.underlying ty = some d) (hd : (match d with | .struct _ | .array _ _ => true | _ => false) = true) (hi : (P.info? ty).map (·.size) = some cs.size) :
    (results fn tmps).run P w = .ok (.tuple #[.agg cs, tmps.getD q undef]) w := by
  have hp' : tmps[p]?.getD undef = .pointer (some ⟨g, 0, none⟩) := by simpa using hp
  simp [results, h, hp', asAddr, run_loadVar_row w g t ty cs fr d hg hu hd hi]
set_option maxRecDepth 100000 in
set_option maxHeartbeats 1000000 in
theorem done_any (K : Nat → BitVec 32) (s : St) (N : Nat) (vr : Value) (rest : List (BitVec 8)) (w : World) (hK : TabK K 1 w) (hrd : Rd w vr (bv rest)) (hN : N < 18446744073709551616) (hlen : rest.length ≤ 1099511627776) :
    Calls Tryd.prog 35 #[.agg #[.int .u32 (wn s.a), .int .u32 (wn s.b), .int .u32 (wn s.c), .int .u32 (wn s.d), .int .u32 (wn s.e), .int .u32 (wn s.f), .int .u32 (wn s.g), .int .u32 (wn s.h), .int .u64 (N : Int), vr]] w fun e w' =>
      (e = .returned (.tuple #[.agg (if chk s N (bv rest).length = 0 then (bv (finKey K s N rest)).toArray else key0), .int .i64 (chk s N (bv rest).length)])) ∧ Below w.heap.size w w' := by
  have HR := Lib.hid hrd
  have HK := Lib.hid hK
  obtain ⟨ao, cap, rfl, -, -, -, -⟩ := hrd
  have HC := Lib.hid (fun w => check_any s N (bv rest).length cap ao w hN (by rw [bv_length]; exact hlen))
  clear hK
  go_enter Tryd.func35, Tryd.ntmps35
  go_wp2_with fail
  refine (HC.out _).mono ?_
  rintro e w1 ⟨rfl, hb1⟩
  change Below (finW s N (.slice ao (bv rest).length cap) w).heap.size (finW s N (.slice ao (bv rest).length cap) w) w1 at hb1
  have hb2 := (finW_below s N (.slice ao (bv rest).length cap) w).trans (hb1.mono (by rw [finW_size]; omega))
  have hout1 : w1.heap[w.heap.size + 1]? = some (.cells key0 28 (0, 0)) := (hb1.block _ (by rw [finW_size]; omega)).trans (heap_alloc2_new w _ _)
  have h1 := (finW_sha s N (.slice ao (bv rest).length cap) w).of_block (hb1.block w.heap.size (by rw [finW_size]; omega))
  have HB := Lib.hid hb2
  have HO := Lib.hid hout1
  have hlt1 : w.heap.size + 1 < w1.heap.size := heap_lt hout1
  rcases chk_cases s N (bv rest).length with hc | hc
  · obtain ⟨g0, g1, g2, g3, g4, g5, g6, g7⟩ := state_cells h1 shaCells_low (by omega) (Below.refl (w.heap.size + 1) w1) (by omega)
    have g8 := h1.cell (i := 8) (by omega)
    rw [shaCells_8] at g8
    have g9 := h1.cell (i := 9) (by omega)
    rw [shaCells_9] at g9
    have hN2 := chk_N hc
    have HF0 := finish_any K s N (.slice ao (bv rest).length cap) rest w1 (TabK_fr HK.out (Fr.of_below (S := fun _ => False) hb2) (fun h => h)) (HR.out.grow hb2) (by omega) (by omega)
    generalize hx : finKey K s N rest = X at HF0
    have hxl : X.length = 32 := by rw [← hx]; exact keyBytes_length _
    have HF := Lib.hid HF0
    have HX := Lib.hid hx
    clear HF0 hx h1 hb1 hb2 hout1
    go_wp2_with fail
    refine HF.out.mono ?_
    rintro e w2 ⟨rfl, hb2⟩
    obtain ⟨w3, q1, q2, q3⟩ := store_key (w := w2) (b := w.heap.size + 1) X hxl ((hb2.block _ (by omega)).trans HO.out)
    have HO3 := Lib.hid q2
    have HB3 := Lib.hid (q3 w.heap.size w (by omega) (HB.out.trans (hb2.mono (by omega))))
    have hsz8 : (Tryd.prog.info? 28).map (·.size) = some (bv X).toArray.size := by rw [List.size_toArray, bv_length, hxl]; kernel_rfl
    have hxb : (bv X).length = 32 := by rw [bv_length]; exact hxl
    clear q2 q3 hb2
    go_wp2_with fail
    refine bodyPost_ret (results_cell_tmp rfl _ _ (w.heap.size + 1) 28 (bv X).toArray (0, 0) _ rfl HO3.out Tryd.underlying28 rfl hsz8) rfl ?_
    refine ⟨?_, HB3.out⟩
    rw [HX.out]
    rfl
  · have hs32 : (Tryd.prog.info? 28).map (·.size) = some key0.size := by kernel_rfl
    go_wp2_with ((refine wpList_store_key0 rfl (.tmp 2) (.tmp 9) rfl (w.heap.size + 1) rfl rfl HO.out ?_; intro w3 q2 q3))
    refine bodyPost_ret (results_cell_tmp rfl _ _ (w.heap.size + 1) 28 key0 (0, 0) _ rfl q2.out Tryd.underlying28 rfl hs32) rfl ?_
    exact ⟨rfl, q3 _ _ (by omega) HB.out⟩
end Go.Proofs.YtifehfcgmodmaaaDoor
