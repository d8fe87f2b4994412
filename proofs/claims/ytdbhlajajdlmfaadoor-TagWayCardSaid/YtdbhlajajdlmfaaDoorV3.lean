/- slices.Index and slices.Contains over keys. -/
import Derived.Test.YtdbhlajajdlmfaaDoorB1
import Derived.Test.YtdbhlajajdlmfaaDoorB2
namespace Go.Proofs.YtdbhlajajdlmfaaDoor
open Go Go.RowKit
set_option linter.unusedSimpArgs false
theorem box_key (k : List (BitVec 8)) (w : World) : (Instr.box 30 (.agg (bv k).toArray)).run Tryd.prog w = .ok (.pointer (some ⟨w.heap.size, 0, none⟩)) (w.alloc (.cells (bv k).toArray 30)) := rfl
theorem run_eql_keyV {X Y : List (BitVec 8)} (hX : X.length = 32) (hY : Y.length = 32) (b : Bool) (hb : decide (X = Y) = b) (w : World) : (Go.binOp .eql 30 (.agg (bv X).toArray) (.agg (bv Y).toArray)).run Tryd.prog w = .ok (.bool b) w := by
  have heq := run_eq_key X Y hX hY
  rw [hb] at heq
  simp [go_sem, heq]
/-- Where the first key is that is this one; none: -1. -/
def idxK (y : List (BitVec 8)) (ks : List (List (BitVec 8))) : Int := match ks.findIdx? (fun x => decide (y = x)) with
  | some i => (i : Int)
  | none => -1
theorem idxK_some {y : List (BitVec 8)} {ks : List (List (BitVec 8))} {i : Nat} (h : ks.findIdx? (fun x => decide (y = x)) = some i) : idxK y ks = (i : Int) := by unfold idxK; rw [h]
theorem idxK_none {y : List (BitVec 8)} {ks : List (List (BitVec 8))} (h : ks.findIdx? (fun x => decide (y = x)) = none) : idxK y ks = -1 := by unfold idxK; rw [h]
theorem idxK_mem (y : List (BitVec 8)) (ks : List (List (BitVec 8))) : 0 ≤ idxK y ks ↔ y ∈ ks := by
  have h : (ks.findIdx? (fun x => decide (y = x))).isSome = true ↔ y ∈ ks := by
    rw [List.findIdx?_isSome]
    simp only [List.any_eq_true, decide_eq_true_eq]
    constructor
    · rintro ⟨x, h1, rfl⟩
      exact h1
    · exact fun h => ⟨y, h, rfl⟩
  rw [← h]
  unfold idxK
  cases ks.findIdx? (fun x => decide (y = x)) with
  | none => simp
  | some i => simp
set_option maxRecDepth 100000 in
set_option maxHeartbeats 4000000 in
theorem indexK_any (v : Value) (y : List (BitVec 8)) (ks : List (List (BitVec 8))) (w : World) (h : RdK w v ks) (hy : y.length = 32) (hl : ks.length ≤ 1048576) :
    Calls Tryd.prog 88 #[v, .agg (bv y).toArray] w fun e w' => e = .returned (.int .i64 (idxK y ks)) ∧ Aft w w' := by
  have HK := Lib.hid h
  have HY := Lib.hid hy
  obtain ⟨ao, cap, rfl, -, -⟩ := h.shape
  have HL := Lib.hid (Led.start w)
  clear h hy
  go_enter Tryd.func88, Tryd.ntmps88
  go_wp2_with (first | (refine wpList_boxO rfl 30 (.tmp 1) rfl (.agg (bv y).toArray) rfl (.cells (bv y).toArray 30) (box_key _) ?_; intro w1 aa gg zz; replace HL := Lib.hid (HL.out.alloc aa gg.out); clear aa gg zz; try simp only [List.nil_append, List.cons_append, List.set_cons_zero, List.set_cons_succ] at HL))
  go_loopw [8] (fun v8 wr => ∃ i : Nat, i ≤ ks.length ∧ v8 = .int .i64 (i : Int) ∧ (∀ j, j < i → ¬ y = ks.getD j []) ∧ Led w wr [(w.heap.size, .cells (bv y).toArray 30)]) (fun v _ => ks.length - (intOf v).toNat)
  case atStart => exact ⟨0, Nat.zero_le _, rfl, fun j hj => absurd hj (Nat.not_lt_zero _), HL.out⟩
  case round =>
    clear HL
    obtain ⟨i, hi, rfl, hne, hL⟩ := hrel
    have HN := Lib.hid hne
    have HL := Lib.hid hL
    clear hne hL
    by_cases hlt : i < ks.length
    · have hlt' : (i : Int) < (ks.length : Nat) := by omega
      obtain ⟨g2, o2, d2, e2, hX, hr2⟩ := (HK.out.grow HL.out.aft).at hlt
      cases e2
      have HX := Lib.hid hX
      have HR1 := Lib.hid (HL.out.key 0 rfl HY.out)
      have HR2 := Lib.hid hr2
      have HFi := Lib.hid (fun (q : y = ks.getD i []) => show idxK y ks = (i : Int) from by
        refine idxK_some (List.findIdx?_eq_some_iff_getElem.2 ⟨hlt, ?_, fun j hj => ?_⟩)
        · rw [q, List.getD_eq_getElem?_getD, List.getElem?_eq_getElem hlt]
          exact decide_eq_true rfl
        · have := HN.out j hj
          rw [List.getD_eq_getElem?_getD, List.getElem?_eq_getElem (by omega)] at this
          simpa using this)
      have HNx := Lib.hid (fun (q : ¬ y = ks.getD i []) => show ∀ j, j < i + 1 → ¬ y = ks.getD j [] from fun j hj => by
        by_cases e : j = i
        · rw [e]; exact q
        · exact HN.out j (by omega))
      clear hX hr2
      generalize ks.getD i [] = X at *
      obtain ⟨b, hb⟩ : ∃ b, decide (y = X) = b := ⟨_, rfl⟩
      have HB := Lib.hid hb
      clear hb
      go_wp2_with fail
      refine wp_region_lexF (fun i => ([0] : List Nat).getD i 0) 6 (by kernel_rfl) (by kernel_rfl) ?_; intro wq hwr
      have HAq := Lib.hid (show Aft wr wq by rw [hwr]; exact (Below.refl _ _).drew)
      clear hwr
      refine lf_load_key rfl (by kernel_rfl) (.tmp 3) rfl w.heap.size 0 rfl y (HR1.out.grow HAq.out) HY.out ?_
      simp only [Act.put, List.setIfInBounds_toArray, List.set_cons_succ, List.set_cons_zero]
      repeat (first | (refine lf_skip (by go_big_quiet_skip; exact wpQuiet_nil trivial) (by kernel_rfl) ?_; simp only [Act.put, List.setIfInBounds_toArray, List.set_cons_succ, List.set_cons_zero]) | (refine lf_quiet rfl (by go_big_quiet_want; exact quiet_false (by assumption)) (by kernel_rfl) rfl ?_; intro Kx hKx; go_big_quiet_op; go_big_quiet_on))
      refine lf_load_key rfl (by kernel_rfl) (.tmp 14) rfl g2 (o2 + i * 32) rfl X (HR2.out.grow HAq.out) HX.out ?_
      simp only [Act.put, List.setIfInBounds_toArray, List.set_cons_succ, List.set_cons_zero]
      refine lf_bin rfl (by kernel_rfl) .eql 30 30 (.tmp 11) (.tmp 15) rfl _ _ _ rfl rfl (run_eql_keyV HY.out HX.out b HB.out) (guard_key _ _ _ _ _) ?_
      simp only [Act.put, List.setIfInBounds_toArray, List.set_cons_succ, List.set_cons_zero]
      refine lf_done ?_
      intro wt ht
      replace HL := Lib.hid (HL.out.call (Aft.trans HAq.out ht))
      clear ht
      cases b with
      | true =>
        have HF := Lib.hid (HFi.out (of_decide_eq_true HB.out))
        go_wp2_with fail
        go_ret
        exact ⟨by rw [HF.out]; rfl, HL.out.aft⟩
      | false =>
        have HF := Lib.hid (HNx.out (of_decide_eq_false HB.out))
        go_wp2_with fail
        go_roundw
        case rel => exact ⟨i + 1, by omega, by go_num, HF.out, HL.out⟩
        case measure => simp [intOf]; omega
    · obtain rfl : i = ks.length := by omega
      have hlt' : ¬ ((ks.length : Nat) : Int) < (ks.length : Nat) := by omega
      have HF := Lib.hid (show idxK y ks = -1 from by
        refine idxK_none (List.findIdx?_eq_none_iff.2 fun x hx => ?_)
        obtain ⟨j, hj, e⟩ := List.getElem_of_mem hx
        have := HN.out j hj
        rw [List.getD_eq_getElem?_getD, List.getElem?_eq_getElem hj, Option.getD_some, e] at this
        simpa using this)
      go_wp2_with fail
      go_ret
      exact ⟨by rw [HF.out]; rfl, HL.out.aft⟩
set_option maxRecDepth 100000 in
set_option maxHeartbeats 4000000 in
theorem containsK_any (v : Value) (y : List (BitVec 8)) (ks : List (List (BitVec 8))) (w : World) (h : RdK w v ks) (hy : y.length = 32) (hl : ks.length ≤ 1048576) :
    Calls Tryd.prog 60 #[v, .agg (bv y).toArray] w fun e w' => e = .returned (.bool (decide (y ∈ ks))) ∧ Aft w w' := by
  have HI := Lib.hid (fun (wx : World) (ha : Aft w wx) => indexK_any v y ks wx (h.grow ha) hy hl)
  have HY := Lib.hid hy
  obtain ⟨ao, cap, rfl, -, -⟩ := h.shape
  have HQ := Lib.hid (idxK_mem y ks)
  generalize idxK y ks = q at HI HQ
  have HL := Lib.hid (Led.start w)
  clear h hy
  go_enter Tryd.func60, Tryd.ntmps60
  go_wp2_with (first | (refine wpList_boxO rfl 30 (.tmp 1) rfl (.agg (bv y).toArray) rfl (.cells (bv y).toArray 30) (box_key _) ?_; intro w1 aa gg zz; replace HL := Lib.hid (HL.out.alloc aa gg.out); clear aa gg zz; try simp only [List.nil_append, List.cons_append, List.set_cons_zero, List.set_cons_succ] at HL) | (refine wpList_load_rowG (by kernel_rfl) 30 (.tmp 3) rfl _ rfl _ _ _ _ (HL.out.get 0 rfl) Tryd.underlying30 rfl (key_info HY.out) ?_))
  refine (HI.out _ HL.out.aft).mono ?_
  rintro e w2 ⟨rfl, h2⟩
  replace HL := Lib.hid (HL.out.call h2)
  by_cases hq : 0 ≤ q
  · have HB := Lib.hid (decide_eq_true (HQ.out.1 hq))
    go_wp2_with fail
    go_ret
    exact ⟨by rw [HB.out]; rfl, HL.out.aft⟩
  · have HB := Lib.hid (decide_eq_false fun z => hq (HQ.out.2 z))
    have hb2 : decide (0 ≤ q) = false := decide_eq_false hq
    go_wp2_with fail
    go_ret
    exact ⟨by rw [HB.out]; rfl, HL.out.aft⟩
end Go.Proofs.YtdbhlajajdlmfaaDoor
