/- terms.out, terms.outRule, and slices.ContainsFunc over them. -/
import Derived.Test.YtfgammcefaomeaaK6
import Derived.Test.YtfgammcefaomeaaB2
namespace Go.Proofs.Ytfgammcefaomeaa
open Go Go.RowKit
set_option linter.unusedSimpArgs false
def outB (below x : Int) : Bool := decide (x < 0) || decide (below ≤ x)
theorem outB_lt {below x : Int} (h : x < 0) : outB below x = true := by
  rw [outB, decide_eq_true h]
  rfl
theorem outB_eq {below x : Int} (h : ¬ x < 0) : outB below x = decide (below ≤ x) := by
  rw [outB, decide_eq_false h]
  rfl
set_option maxRecDepth 100000 in
theorem tout1_any (x below : Int) (b : Nat) (w : World) (hc : w.cell? ⟨b, 0, none⟩ = some (.int .i64 below)) :
    Calls Try.prog 84 #[.int .i64 x, .pointer (some ⟨b, 0, none⟩)] w fun e w' => e = .returned (.bool (outB below x)) ∧ w' = w := by
  by_cases h : x < 0
  · have HX := Lib.hid (outB_lt (below := below) h)
    go_enter Try.func84, Try.ntmps84
    go_wp2_with fail
    go_ret
    exact ⟨by rw [HX.out]; rfl, rfl⟩
  · have HX := Lib.hid (outB_eq (below := below) h)
    go_enter Try.func84, Try.ntmps84
    go_wp2_with fail
    go_ret
    exact ⟨by rw [HX.out]; rfl, rfl⟩
set_option maxRecDepth 100000 in
theorem toutI_any (v : Value) (below : Int) (b : Nat) (xs : List Int) (w : World) (h : Rd w v (zv xs)) (hl : xs.length ≤ 9223372036854775000) (hb : w.cell? ⟨b, 0, none⟩ = some (.int .i64 below)) :
    Calls Try.prog 64 #[v, .func (.func 84) #[] #[.pointer (some ⟨b, 0, none⟩)]] w fun e w' => e = .returned (.int .i64 (fixI (outB below) xs)) ∧ w' = w := by
  obtain ⟨ao, cap, rfl, -, -⟩ := h.numS
  have HR := Lib.hid h
  have HC1 := Lib.hid (fun x => tout1_any x below b w hb)
  clear h hb
  go_enter Try.func64, Try.ntmps64
  go_wp2_with fail
  go_loopw [8] (fun v8 wr => ∃ i : Nat, i ≤ xs.length ∧ v8 = .int .i64 (i : Int) ∧ (∀ j, j < i → outB below (xs.getD j 0) = false) ∧ wr = w) (fun v _ => xs.length - (intOf v).toNat)
  case atStart => exact ⟨0, by omega, rfl, fun j hj => absurd hj (Nat.not_lt_zero _), rfl⟩
  case round =>
    obtain ⟨i, hi, rfl, hne, rfl⟩ := hrel
    have HN := Lib.hid hne
    clear hne
    by_cases hlt : i < xs.length
    · have hlt' : (i : Int) < (xs.length : Nat) := by omega
      obtain ⟨g, o, rfl, -, -⟩ := HR.out.some_of (by rw [zv_length]; omega)
      have hc := HR.out.num_at hlt
      have HX := Lib.hid (fun q => fixI_hit hlt q HN.out)
      have HX2 := Lib.hid (show outB below (xs.getD i 0) = false → ∀ j, j < i + 1 → outB below (xs.getD j 0) = false from fun q j hj => by
        by_cases e : j = i
        · subst e; exact q
        · exact HN.out j (by omega))
      generalize xs.getD i 0 = x at *
      go_wp2_with fail
      refine (HC1.out x).mono ?_
      rintro e w2 ⟨rfl, rfl⟩
      cases hq : outB below x with
      | true =>
        have HI := Lib.hid (HX.out hq)
        clear hq
        go_wp2_with fail
        go_ret
        exact ⟨by rw [HI.out]; rfl, rfl⟩
      | false =>
        have HI := Lib.hid (HX2.out hq)
        clear hq
        go_wp2_with fail
        go_roundw
        case rel => exact ⟨i + 1, by omega, by go_num, HI.out, by trivial⟩
        case measure => simp [intOf]; omega
    · obtain rfl : i = xs.length := by omega
      have hlt' : ¬ ((xs.length : Nat) : Int) < (xs.length : Nat) := by omega
      have HI := Lib.hid (fixI_miss HN.out)
      go_wp2_with fail
      go_ret
      exact ⟨by rw [HI.out]; rfl, rfl⟩
set_option maxRecDepth 100000 in
theorem toutC_any (v : Value) (below : Int) (b : Nat) (xs : List Int) (w : World) (h : Rd w v (zv xs)) (hl : xs.length ≤ 9223372036854775000) (hb : w.cell? ⟨b, 0, none⟩ = some (.int .i64 below)) :
    Calls Try.prog 72 #[v, .func (.func 84) #[] #[.pointer (some ⟨b, 0, none⟩)]] w fun e w' => e = .returned (.bool (xs.any (outB below))) ∧ w' = w := by
  have HI := Lib.hid (toutI_any v below b xs w h hl hb)
  rw [← fixI_any]
  clear h hl hb
  go_enter Try.func72, Try.ntmps72
  go_wp2_with fail
  refine HI.out.mono ?_
  rintro e w2 ⟨rfl, rfl⟩
  go_wp2_with fail
  go_ret
  exact ⟨rfl, rfl⟩
set_option maxRecDepth 100000 in
theorem tout_any (v : Value) (below : Int) (xs : List Int) (w : World) (h : Rd w v (zv xs)) (hl : xs.length ≤ 9223372036854775000) :
    Calls Try.prog 49 #[v, .int .i64 below] w fun e w' => e = .returned (.bool (xs.any (outB below))) ∧ Aft w w' := by
  have HC := Lib.hid (fun (wx : World) (ha : Aft w wx) b hb => toutC_any v below b xs wx (h.grow ha) hl hb)
  obtain ⟨ao, cap, rfl, -, -⟩ := h.numS
  have HL := Lib.hid (Led.start w)
  clear h hl
  generalize xs.any (outB below) = q at *
  go_enter Try.func49, Try.ntmps49
  go_wp2_with (first | (refine wpList_boxO rfl 3 (.tmp 1) rfl (.int .i64 below) rfl (.cells #[.int .i64 below] 3) (fun w => rfl) ?_; intro w' aa gg zz; replace HL := Lib.hid (HL.out.alloc aa gg.out); clear aa gg zz; try simp only [List.nil_append, List.cons_append, List.set_cons_zero, List.set_cons_succ] at HL))
  refine (HC.out _ HL.out.aft _ (cell_part (n := 0) (HL.out.get 0 rfl) rfl)).mono ?_
  rintro e w2 ⟨rfl, rfl⟩
  go_wp2_with fail
  go_ret
  exact ⟨rfl, HL.out.aft⟩
def badR (r : Rl) : Bool := r.frm.any (outB 1048576) || outB 1048576 r.to
theorem box_rl (L : List Value) (w : World) : (Instr.box 58 (.agg L.toArray)).run Try.prog w = .ok (.pointer (some ⟨w.heap.size, 0, none⟩)) (w.alloc (.cells L.toArray 58)) := rfl
set_option maxRecDepth 100000 in
theorem toutR_any (r : Rl) (v : Value) (w : World) (h : Rd w v (zv r.frm)) (hl : r.frm.length ≤ 9223372036854775000) :
    Calls Try.prog 52 #[.agg (rlR r v).toArray, .int .i64 1048576] w fun e w' => e = .returned (.bool (badR r)) ∧ Aft w w' := by
  have HC := Lib.hid (fun (wx : World) (ha : Aft w wx) => tout_any v 1048576 r.frm wx (h.grow ha) hl)
  obtain ⟨ao, cap, rfl, -, -⟩ := h.numS
  have HL := Lib.hid (Led.start w)
  clear h hl
  go_enter Try.func52, Try.ntmps52
  go_wp2_with (first | (refine wpList_boxO rfl 58 (.tmp 0) rfl (.agg (rlR r (.slice ao r.frm.length cap)).toArray) rfl (.cells (rlR r (.slice ao r.frm.length cap)).toArray 58) (box_rl _) ?_; intro w' aa gg zz; replace HL := Lib.hid (HL.out.alloc aa gg.out); clear aa gg zz; try simp only [List.nil_append, List.cons_append, List.set_cons_zero, List.set_cons_succ] at HL; have d0 := cell_part (n := 0) (HL.out.get 0 rfl) rfl))
  refine (HC.out _ HL.out.aft).mono ?_
  rintro e w2 ⟨rfl, h2⟩
  replace HL := Lib.hid (HL.out.call h2)
  have d1 := cell_part (n := 1) (HL.out.get 0 rfl) rfl
  clear h2 HC d0
  cases hq : r.frm.any (outB 1048576) with
  | true =>
    have HX := Lib.hid (show badR r = true by rw [badR, hq]; rfl)
    clear hq
    go_wp2_with fail
    go_ret
    exact ⟨by rw [HX.out]; rfl, HL.out.aft⟩
  | false =>
    have HX := Lib.hid (show badR r = [r.to].any (outB 1048576) by rw [badR, hq, List.any_cons, List.any_nil, Bool.or_false, Bool.false_or])
    clear hq
    go_wp2_with (first | (refine wpList_dstT 12 rfl ?_; refine wpList_intSlice (by kernel_rfl) (.tmp 11) r.to rfl rfl ?_; intro wC aC gC; replace HL := Lib.hid (HL.out.call aC); have HOne := Lib.hid (one_own (w := w2) gC.out (Nat.le_refl _)).rd; clear aC gC d1))
    refine (tout_any _ 1048576 [r.to] wC HOne.out (by simp)).mono ?_
    rintro e w5 ⟨rfl, h5⟩
    replace HL := Lib.hid (HL.out.call h5)
    rw [← HX.out]
    clear h5
    go_wp2_with fail
    go_ret
    exact ⟨rfl, HL.out.aft⟩
set_option maxRecDepth 100000 in
theorem toutF_any (r : Rl) (v : Value) (w : World) (h : Rd w v (zv r.frm)) (hl : r.frm.length ≤ 9223372036854775000) :
    Calls Try.prog 51 #[.agg (rlR r v).toArray] w fun e w' => e = .returned (.bool (badR r)) ∧ Aft w w' := by
  have HC := Lib.hid (fun (wx : World) (ha : Aft w wx) => toutR_any r v wx (h.grow ha) hl)
  obtain ⟨ao, cap, rfl, -, -⟩ := h.numS
  have HL := Lib.hid (Led.start w)
  clear h hl
  go_enter Try.func51, Try.ntmps51
  go_wp2_with (first | (refine wpList_boxO rfl 58 (.tmp 0) rfl (.agg (rlR r (.slice ao r.frm.length cap)).toArray) rfl (.cells (rlR r (.slice ao r.frm.length cap)).toArray 58) (box_rl _) ?_; intro w' aa gg zz; replace HL := Lib.hid (HL.out.alloc aa gg.out); clear aa gg zz; try simp only [List.nil_append, List.cons_append, List.set_cons_zero, List.set_cons_succ] at HL) | (refine wpList_load_rowG (by kernel_rfl) 58 (.tmp 1) rfl _ rfl _ _ _ _ (HL.out.get 0 rfl) Try.underlying58 rfl rl_info2 ?_))
  refine (HC.out _ HL.out.aft).mono ?_
  rintro e w2 ⟨rfl, h2⟩
  replace HL := Lib.hid (HL.out.call h2)
  clear h2 HC
  go_wp2_with fail
  go_ret
  exact ⟨rfl, HL.out.aft⟩
set_option maxRecDepth 100000 in
set_option maxHeartbeats 1000000 in
theorem toutX_any (u : Value) (ps : List (Rl × Value)) (w : World) (h : RdRl w u ps) (hl : ps.length ≤ 9223372036854775000) (hf : ∀ p ∈ ps, p.1.frm.length ≤ 9223372036854775000) :
    Calls Try.prog 85 #[u, .func (.func 51) #[] #[]] w fun e w' => (∃ k : Int, e = .returned (.int .i64 k) ∧ decide (0 ≤ k) = ps.any fun p => badR p.1) ∧ Aft w w' := by
  have HRl := Lib.hid h
  obtain ⟨bo, dap, rfl, -, -⟩ := h.shape
  have HF := Lib.hid hf
  clear h hf
  go_enter Try.func85, Try.ntmps85
  go_wp2_with fail
  go_loopw [8] (fun v8 wr => ∃ i : Nat, i ≤ ps.length ∧ v8 = .int .i64 (i : Int) ∧ (∀ j, j < i → badR (ps.getD j rlP).1 = false) ∧ Aft w wr) (fun v _ => ps.length - (intOf v).toNat)
  case atStart => exact ⟨0, by omega, rfl, fun j hj => absurd hj (Nat.not_lt_zero _), Aft.refl _⟩
  case round =>
    obtain ⟨i, hi, rfl, hne, hA⟩ := hrel
    have HN := Lib.hid hne
    have HA := Lib.hid hA
    clear hne hA
    by_cases hlt : i < ps.length
    · have hlt' : (i : Int) < (ps.length : Nat) := by omega
      obtain ⟨g, o, c4, he, hrg⟩ := HRl.out.at hlt
      injection he with he1 he2 he3
      subst he1 he3
      obtain ⟨ka, kc, hkv, -, -⟩ := (HRl.out.kidAt hlt).numS
      have HFr := Lib.hid (HRl.out.kidAt hlt)
      have HFl := Lib.hid (HF.out _ (rlP_mem hlt))
      have hrx := hrg wr HA.out
      have HX := Lib.hid (show badR (ps.getD i rlP).1 = true → (ps.any fun p => badR p.1) = true from fun q => List.any_eq_true.2 ⟨_, rlP_mem hlt, q⟩)
      have HX2 := Lib.hid (show badR (ps.getD i rlP).1 = false → ∀ j, j < i + 1 → badR (ps.getD j rlP).1 = false from fun q j hj => by
        by_cases e : j = i
        · subst e; exact q
        · exact HN.out j (by omega))
      rw [hkv] at hrx HFr
      generalize (ps.getD i rlP).1 = r at *
      have HRx := Lib.hid hrx
      clear hrx hrg hkv he2
      go_wp2_with (first | (refine wpList_dstT 15 rfl ?_; refine wpList_load_mid2 (by kernel_rfl) 58 (.tmp 14) rfl _ _ rfl (rlR r (.slice ka r.frm.length kc)) HRx.out _ Try.underlying58 rfl rl_info ?_))
      refine (toutF_any r _ wr (HFr.out.grow HA.out) HFl.out).mono ?_
      rintro e w2 ⟨rfl, h2⟩
      replace HA := Lib.hid (Aft.trans HA.out h2)
      clear h2
      cases hq : badR r with
      | true =>
        have HI := Lib.hid (HX.out hq)
        clear hq
        go_wp2_with fail
        go_ret
        exact ⟨⟨i, rfl, by rw [HI.out]; exact decide_eq_true (by omega)⟩, HA.out⟩
      | false =>
        have HI := Lib.hid (HX2.out hq)
        clear hq
        go_wp2_with fail
        go_roundw
        case rel => exact ⟨i + 1, by omega, by go_num, HI.out, HA.out⟩
        case measure => simp [intOf]; omega
    · obtain rfl : i = ps.length := by omega
      have hlt' : ¬ ((ps.length : Nat) : Int) < (ps.length : Nat) := by omega
      have HI := Lib.hid (show (ps.any fun p => badR p.1) = false by
        rw [List.any_eq_false]
        intro p hp
        obtain ⟨j, hj, rfl⟩ := List.getElem_of_mem hp
        have := HN.out j hj
        rw [List.getD_eq_getElem?_getD, List.getElem?_eq_getElem hj] at this
        simpa using this)
      go_wp2_with fail
      go_ret
      exact ⟨⟨-1, rfl, by rw [HI.out]; rfl⟩, HA.out⟩
set_option maxRecDepth 100000 in
theorem toutL_any (u : Value) (ps : List (Rl × Value)) (w : World) (h : RdRl w u ps) (hl : ps.length ≤ 9223372036854775000) (hf : ∀ p ∈ ps, p.1.frm.length ≤ 9223372036854775000) :
    Calls Try.prog 50 #[u, .func (.func 51) #[] #[]] w fun e w' => e = .returned (.bool (ps.any fun p => badR p.1)) ∧ Aft w w' := by
  have HI := Lib.hid (toutX_any u ps w h hl hf)
  obtain ⟨bo, dap, rfl, -, -⟩ := h.shape
  clear h hl hf
  go_enter Try.func50, Try.ntmps50
  go_wp2_with fail
  refine HI.out.mono ?_
  rintro e w2 ⟨⟨k, rfl, hk⟩, h2⟩
  have HK := Lib.hid hk
  have H2 := Lib.hid h2
  clear hk h2 HI
  go_wp2_with fail
  go_ret
  exact ⟨by rw [← HK.out]; rfl, H2.out⟩
end Go.Proofs.Ytfgammcefaomeaa
