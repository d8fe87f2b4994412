/- slices.Backward over nodes: its contract as an iterator. -/
import Derived.Test.YtejdkmfbncedkaaB5
import Derived.RangeFuncNested
import Derived.RangeFuncBound
import Derived.RangeFuncCalls
import Derived.RangeFuncLeaves
import Derived.Shelf.Abstract
import Derived.Shelf.RegionOpen
import Derived.WalkKit
import Derived.OwnWalkIn
import Derived.TacticsInMore
import Derived.LoopNIn
import Derived.LoopIn
namespace Go.Proofs.Ytejdkmfbncedkaa
open Go Go.RowKit Go.Shelf
set_option linter.unusedSimpArgs false
attribute [local go_sem] Oper.semAt_some
section
variable {F : Fence} {n : Nat} {P : Program} {ops : Array Oper} {rest : List Oper} {o : Oper} {a : Act} {w : World} {Q : Exit → Act → World → Prop}
theorem wpListIn_load_mid2 (hg : o.guard = none) (ty : TypeId) (x : Operand) (ho : o.op = .load ty x) (b q : Nat) (hx : a.eval x = .pointer (some ⟨b, q, none⟩)) (r : List Value) (hr : w.rangeAt b q r) (d : TypeDesc) (hu : P.underlying ty = some d) (hd : d.isRow = true) (hi : (P.info? ty).map (·.size) = some r.length)
    (h : wpListIn F n P ops Q rest (a.put o.dst (.agg r.toArray)) w) : wpListIn F n P ops Q (o :: rest) a w := by
  refine wpListIn_plain hg fun K hK' => ?_
  unfold Oper.wpIn
  refine ⟨?_, ?_⟩
  · simp [Oper.about, ho]
  · rw [Oper.semAt_plain F _ _ (by rw [ho]; intro c hc'; cases hc')]
    simp only [execOp, ho, hx, run_loadAt_mid w b q ty r d hr hu hd hi, Sem.run_bind, Result.andThen_ok, Sem.run_pure]
    exact hK' _ _ h
theorem wpListIn_store_rowZ (hgd : o.guard = none) (ty : TypeId) (x y : Operand) (ho : o.op = .store ty x y) (g : Nat) (cells : Array Value) (hx : a.eval x = .pointer (some ⟨g, 0, none⟩)) (hy : a.eval y = .agg cells)
    (t : TypeId) (old : Array Value) (hg : w.heap[g]? = some (.cells old t (0, 0))) (hi : (P.info? ty).map (·.size) = some cells.size) (hold : old.size = cells.size) (h1 : cells.all (·.oneCell') = true)
    (h : ∀ w', Hid (w'.heap[g]? = some (.cells cells t (0, 0))) → Hid (∀ k, k ≠ g → w'.heap[k]? = w.heap[k]?) → (∀ k w0, k ≤ g → Below k w0 w → Below k w0 w') → w'.heap.size = w.heap.size → wpListIn F n P ops Q rest (a.put o.dst undef) w') : wpListIn F n P ops Q (o :: rest) a w := by
  refine wpListIn_plain hgd fun K hK' => ?_
  unfold Oper.wpIn
  refine ⟨?_, ?_⟩
  · simp [Oper.about, ho]
  · rw [Oper.semAt_plain F _ _ (by rw [ho]; intro c hc'; cases hc')]
    simp only [execOp, ho, hx, hy, Instr.storeAt, Instr.sureAddr, Sem.run_bind, Sem.run_pure, Result.andThen_ok, run_storeVar_row w g t ty old cells hg hi hold h1]
    exact hK' _ _ (h _ (show _ = _ from setRow_heap _ _ _ _ _ _ hg) (show _ from fun k hk => setRow_other w g k _ hk) (fun _ _ hk hb => below_setRow hb hk _) (setRow_size w g cells))
theorem wpListIn_allocO (hgd : o.guard = none) (ty : TypeId) (ho : o.op = .alloc ty) (obj : Obj) (hv : ∀ w1, (Instr.alloc ty true (.tuple #[])).run P w1 = .ok (.pointer (some ⟨w1.heap.size, 0, none⟩)) (w1.alloc obj))
    (h : wpListIn F n P ops Q rest (a.put o.dst (.pointer (some ⟨w.heap.size, 0, none⟩))) (w.alloc obj)) : wpListIn F n P ops Q (o :: rest) a w := by
  refine wpListIn_plain hgd fun K hK' => ?_
  unfold Oper.wpIn
  refine ⟨?_, ?_⟩
  · simp [Oper.about, ho]
  · rw [Oper.semAt_plain F _ _ (by rw [ho]; intro c hc'; cases hc')]
    simp only [execOp, ho, Sem.run_bind, hv, Result.andThen_ok, Sem.run_pure]
    exact hK' _ _ h
end
theorem cells_kept {W W' : World} {row : Option Nat} {k : Nat} {cs : Array Value} {t : TypeId} {fr : Nat × Nat} (h : W.heap[k]? = some (.cells cs t fr)) (hg : W.grownBy W' row) (hr : ∀ r, row = some r → ∃ o : Obj, W.heap[r]? = some o ∧ o.isCells = false) : W'.heap[k]? = some (.cells cs t fr) :=
  (hg.block k (Array.getElem?_eq_some_iff.1 h).1 (fun e => by
    obtain ⟨o, h1, h2⟩ := hr k e.symm
    rw [h] at h1
    cases h1
    cases h2)).trans h
/-- What a round keeps: the nodes, and the box that holds their slice. -/
def KpB (n₀ Bs : Nat) (W W' : World) : Prop := Below n₀ W W' ∧ W'.heap[Bs]? = W.heap[Bs]?
theorem KpB.refl (n₀ Bs : Nat) (W : World) : KpB n₀ Bs W W := ⟨Below.refl _ _, rfl⟩
theorem KpB.trans {n₀ Bs : Nat} {A B C : World} (h : KpB n₀ Bs A B) (k : KpB n₀ Bs B C) : KpB n₀ Bs A C := ⟨h.1.trans k.1, k.2.trans h.2⟩
/-- The last so many places, downwards. -/
def dnL (n j : Nat) : List Nat := (List.range j).map (fun i => n - 1 - i)
theorem dnL_length (n j : Nat) : (dnL n j).length = j := by rw [dnL, List.length_map, List.length_range]
theorem dnL_succ (n j : Nat) : dnL n (j + 1) = dnL n j ++ [n - 1 - j] := by
  unfold dnL
  rw [List.range_succ, List.map_append]
  rfl
abbrev NdI (n : Nat) := { k : Nat // k < n }
def ndE (ps : List (Nd × Value)) (x : NdI ps.length) : Array Value := #[.int .i64 (x.1 : Int), .agg (ndR (ps.getD x.1 ndP).1 (ps.getD x.1 ndP).2).toArray]
set_option maxRecDepth 100000 in
set_option maxHeartbeats 2000000 in
theorem back1_in (m l Bs : Nat) (base : Nat) (ao : Option Addr) (cap : Nat) (ps : List (Nd × Value)) (w0 : World) (hown : OwnN w0 base (.slice ao ps.length cap) ps) (hlen : ps.length ≤ 1000000)
    (J Jx : List (NdI ps.length) → World → Prop)
    (hY : ∀ pre x W1, J pre W1 → pre.length < ps.length → YieldAt Fence.wide (m - 1) Try.prog l #[.int .i64 (x.1 : Int), .agg (ndR (ps.getD x.1 ndP).1 (ps.getD x.1 ndP).2).toArray] W1 fun e W' =>
      (e = .returned (.bool true) ∧ J (pre ++ [x]) W' ∧ KpB w0.heap.size Bs W1 W') ∨ (e = .returned (.bool false) ∧ Jx (pre ++ [x]) W'))
    (W : World) (hW : Below w0.heap.size w0 W) (hBs : W.heap[Bs]? = some (.cells #[.slice ao ps.length cap] 32 (0, 0))) (h0 : J [] W) :
    CallsIn Fence.wide m Try.prog 111 #[.func (.yield l) #[] #[], .pointer (some ⟨Bs, 0, none⟩)] W fun e W' => (∃ v, e = .returned v) ∧
      ((∃ ys, ys.map (·.1) = dnL ps.length ps.length ∧ J ys W') ∨ (∃ pre, True ∧ Jx pre W')) := by
  have HCell := Lib.hid (fun (wx : World) (h : KpB w0.heap.size Bs W wx) => show wx.cell? ⟨Bs, 0, none⟩ = some (.slice ao ps.length cap) by simp [World.cell?, h.2.trans hBs])
  have hc0 := HCell.out W (KpB.refl _ _ _)
  have HRng := Lib.hid (fun (k : Nat) (hk : k < ps.length) => hown.rngA hk)
  have HW := Lib.hid hW
  have HY := Lib.hid hY
  have H0 := Lib.hid h0
  clear hown hBs hW hY h0
  refine callsIn_of_wp Try.func111 rfl trivial ?_ rfl
  simp only [Try.ntmps111, List.size_toArray, List.length_cons, List.length_nil, Nat.reduceAdd, Nat.reduceSub, Array.replicate_succ, Array.replicate_zero, List.push_toArray, List.append_toArray, List.nil_append, List.cons_append]
  gi_wp2
  clear hc0
  gi_loopw [3] (fun i wr => ∃ (k : Nat) (pre : List (NdI ps.length)), k ≤ ps.length ∧ i = .int .i64 ((k : Int) - 1) ∧ pre.map (·.1) = dnL ps.length (ps.length - k) ∧ J pre wr ∧ KpB w0.heap.size Bs W wr)
    (fun i _ => (intOf i + 1).toNat)
  case atStart =>
    exact ⟨ps.length, [], Nat.le_refl _, rfl, by rw [Nat.sub_self]; rfl, H0.out, KpB.refl _ _ _⟩
  case round =>
    obtain ⟨k, pre, hk, rfl, hpre, hJs, hK⟩ := hrel
    cases k with
    | zero =>
      have HP := Lib.hid hpre
      have HJ := Lib.hid hJs
      clear hpre hJs
      rw [show ((0 : Nat) : Int) - 1 = -1 from rfl]
      gi_wp2
      go_end0
      exact ⟨⟨_, rfl⟩, .inl ⟨pre, HP.out, HJ.out⟩⟩
    | succ k =>
      have e0 : ((k + 1 : Nat) : Int) - 1 = (k : Int) := by omega
      rw [e0]
      obtain ⟨fn, tmps, assign, body, hy, hR⟩ := HY.out pre ⟨k, hk⟩ wr hJs (by have := congrArg List.length hpre; rw [List.length_map, dnL_length] at this; omega)
      have hcb := HCell.out wr hK
      have HP := Lib.hid hpre
      clear hpre hJs e0
      dsimp only at hy
      obtain ⟨g, c, hv, hg, hr⟩ := HRng.out k hk
      injection hv with hv1 hv2 hv3
      subst hv1 hv3
      have HR := Lib.hid (hr wr (HW.out.trans hK.1))
      clear hr
      generalize ps.getD k ndP = xk at *
      gi_wp2_with (first | (refine wpListIn_load_mid2 rfl 38 (.tmp 15) rfl _ _ rfl (ndR xk.1 xk.2) HR.out _ Try.underlying38 rfl (nd_info3 _ _) ?_))
      refine ⟨fun h => by simp [Fence.wide] at h, hR.mono ?_⟩
      rintro e W3 (⟨rfl, hJ3, hk3⟩ | ⟨rfl, hJx3⟩)
      · have HJ3 := Lib.hid hJ3
        clear hJ3
        gi_wp2
        go_roundw
        case rel =>
          refine ⟨k, pre ++ [⟨k, hk⟩], by omega, rfl, ?_, HJ3.out, hK.trans hk3⟩
          rw [List.map_append, HP.out, show ps.length - k = ps.length - (k + 1) + 1 by omega, dnL_succ, show ps.length - 1 - (ps.length - (k + 1)) = k by omega]
          rfl
        case measure => simp [intOf]
      · have HJ3 := Lib.hid hJx3
        clear hJx3
        gi_wp2
        refine bodyPost_ret (results_none rfl _ _ _) rfl ?_
        exact ⟨⟨_, rfl⟩, .inr ⟨_, trivial, HJ3.out⟩⟩
theorem back_stops (m Bs base : Nat) (ao : Option Addr) (cap : Nat) (ps : List (Nd × Value)) (w0 w : World) (hown : OwnN w0 base (.slice ao ps.length cap) ps) (hlen : ps.length ≤ 1000000) (hb : Below w0.heap.size w0 w) (hBs : w.heap[Bs]? = some (.cells #[.slice ao ps.length cap] 32 (0, 0))) :
    SeqStopsK Fence.wide m Try.prog 111 #[.pointer (some ⟨Bs, 0, none⟩)] (ndE ps) (KpB w0.heap.size Bs) (fun ys => ys.map (·.1) = dnL ps.length ps.length) (fun _ => True) ps.length w := fun l J Jx W hW _ _ hY h0 =>
  back1_in m l Bs base ao cap ps w0 hown hlen J Jx hY W (hb.trans (hW.mono hb.size)) ((hW.block Bs (Array.getElem?_eq_some_iff.1 hBs).1).trans hBs) h0
theorem back_any (ao : Option Addr) (n c : Nat) (w : World) :
    Calls Try.prog 59 #[.slice ao n c] w fun e w' => e = .returned (.func (.func 111) #[] #[.pointer (some ⟨w.heap.size, 0, none⟩)]) ∧ Aft w w' ∧ w'.heap[w.heap.size]? = some (.cells #[.slice ao n c] 32 (0, 0)) := by
  have hmf : ∀ (fn : Fn) (first cap : Array Value) (w : World), (Instr.makeFunc fn first cap).run Try.prog w = .ok (.func fn first cap) w := fun _ _ _ _ => rfl
  go_enter Try.func59, Try.ntmps59
  go_wp2_with fail
  go_ret
  exact ⟨rfl, Aft.alloc _ _, heap_alloc_new w _⟩
end Go.Proofs.Ytejdkmfbncedkaa

