/- The tree's small functions, and the library's looks at numbers. -/
import Derived.Test.YtpnckphfjcnooaaTKit
namespace Go.Proofs.Ytpnckphfjcnooaa
open Go Go.RowKit
theorem frm_bound {xs : List Int} (h : ∀ x ∈ xs, x = 2 ∨ x = 3) : ∀ i, 0 ≤ frm xs i ∧ frm xs i ≤ 3 * (i : Int) := by
  intro i
  induction i with
  | zero => simp [frm]
  | succ i ih =>
    by_cases hi : i < xs.length
    · rw [frm_succ hi]
      have := getD_of h hi
      omega
    · have : frm xs (i + 1) = frm xs i := by
        unfold frm
        rw [List.take_of_length_le (by omega), List.take_of_length_le (by omega)]
      omega
set_option maxRecDepth 100000 in
theorem tsum_any (v : Value) (xs : List Int) (w : World) (h : Rd w v (zv xs)) (h2 : ∀ x ∈ xs, x = 2 ∨ x = 3) (hl : xs.length ≤ 1048576) :
    Calls Try.prog 52 #[v] w fun e w' => e = .returned (.int .i64 xs.sum) ∧ w' = w := by
  obtain ⟨ao, cap, rfl, -, -⟩ := h.numS
  have HR := Lib.hid h
  have HB := Lib.hid (frm_bound h2)
  have HS := Lib.hid (fun i (hi : i < xs.length) => frm_succ (l := xs) hi)
  clear h h2
  go_enter Try.func52, Try.ntmps52
  go_wp2_with fail
  go_loopw [2, 7] (fun v2 v7 wr => ∃ i : Nat, i ≤ xs.length ∧ v7 = .int .i64 (i : Int) ∧ v2 = .int .i64 (frm xs i) ∧ wr = w) (fun _ v _ => xs.length - (intOf v).toNat)
  case atStart => exact ⟨0, by omega, rfl, rfl, rfl⟩
  case round =>
    obtain ⟨i, hi, rfl, rfl, rfl⟩ := hrel
    by_cases hlt : i < xs.length
    · have hlt' : (i : Int) < (xs.length : Nat) := by omega
      obtain ⟨g, o, rfl, -, -⟩ := HR.out.some_of (by rw [zv_length]; omega)
      have hc := HR.out.num_at hlt
      have hs := HS.out i hlt
      have hb := HB.out i
      have hb1 := HB.out (i + 1)
      obtain ⟨f1, hf1⟩ : ∃ f1, f1 = frm xs (i + 1) := ⟨_, rfl⟩
      rw [← hf1] at hs hb1
      have HF1 := Lib.hid hf1
      clear hf1
      generalize frm xs i = f at *
      generalize xs.getD i 0 = x at *
      have hw : wrap64 (f + x) = f1 := by unfold wrap64; omega
      have HF := Lib.hid hw
      clear hs hw
      go_wp2_with fail
      go_roundw
      case rel => exact ⟨i + 1, by omega, by go_num, by rw [HF.out, HF1.out], by trivial⟩
      case measure => simp [intOf]; omega
    · obtain rfl : i = xs.length := by omega
      have hlt' : ¬ ((xs.length : Nat) : Int) < (xs.length : Nat) := by omega
      rw [frm_all]
      go_wp2_with fail
      go_ret
      exact ⟨rfl, rfl⟩
/-- Whether a group may not have so many. -/
def oddB (x : Int) : Bool := !two3 x
set_option maxRecDepth 100000 in
theorem todd_any (x : Int) (w : World) : Calls Try.prog 51 #[.int .i64 x] w fun e w' => e = .returned (.bool (oddB x)) ∧ w' = w := by
  by_cases h1 : x < 2
  · have HR := Lib.hid (show oddB x = true by simp [oddB, two3]; omega)
    rw [HR.out]
    go_enter Try.func51, Try.ntmps51
    go_wp2_with fail
    go_ret
    exact ⟨rfl, rfl⟩
  · by_cases h2 : 3 < x
    · have HR := Lib.hid (show oddB x = true by simp [oddB, two3]; omega)
      rw [HR.out]
      go_enter Try.func51, Try.ntmps51
      go_wp2_with fail
      go_ret
      exact ⟨rfl, rfl⟩
    · have HR := Lib.hid (show oddB x = false by simp [oddB, two3]; omega)
      rw [HR.out]
      go_enter Try.func51, Try.ntmps51
      go_wp2_with fail
      go_ret
      exact ⟨rfl, rfl⟩
def farB (x : Int) : Bool := decide (x < 0 ∨ 1048576 < x)
set_option maxRecDepth 100000 in
theorem tfar_any (x : Int) (w : World) : Calls Try.prog 49 #[.int .i64 x] w fun e w' => e = .returned (.bool (farB x)) ∧ w' = w := by
  by_cases h1 : x < 0
  · have HR := Lib.hid (show farB x = true from decide_eq_true (.inl h1))
    rw [HR.out]
    go_enter Try.func49, Try.ntmps49
    go_wp2_with fail
    go_ret
    exact ⟨rfl, rfl⟩
  · by_cases h2 : 1048576 < x
    · have HR := Lib.hid (show farB x = true from decide_eq_true (.inr h2))
      rw [HR.out]
      go_enter Try.func49, Try.ntmps49
      go_wp2_with fail
      go_ret
      exact ⟨rfl, rfl⟩
    · have HR := Lib.hid (show farB x = false from decide_eq_false (by omega))
      rw [HR.out]
      go_enter Try.func49, Try.ntmps49
      go_wp2_with fail
      go_ret
      exact ⟨rfl, rfl⟩
/-- slices.IndexFunc over a predicate that reads nothing. -/
def fixI (p : Int → Bool) (xs : List Int) : Int := match xs.findIdx? p with | some i => (i : Int) | none => -1
theorem fixI_hit {p : Int → Bool} {k : Nat} {xs : List Int} (hk : k < xs.length) (h : p (xs.getD k 0) = true) (hne : ∀ j, j < k → p (xs.getD j 0) = false) : fixI p xs = (k : Int) := by
  have e : xs.findIdx? p = some k := by
    rw [List.findIdx?_eq_some_iff_getElem]
    refine ⟨hk, ?_, fun j hj => ?_⟩
    · rwa [List.getD_eq_getElem?_getD, List.getElem?_eq_getElem hk] at h
    · have := hne j hj
      rw [List.getD_eq_getElem?_getD, List.getElem?_eq_getElem (by omega)] at this
      rw [Option.getD_some] at this
      simp [this]
  unfold fixI
  rw [e]
theorem fixI_miss {p : Int → Bool} {xs : List Int} (hne : ∀ j, j < xs.length → p (xs.getD j 0) = false) : fixI p xs = -1 := by
  have e : xs.findIdx? p = none := by
    rw [List.findIdx?_eq_none_iff]
    intro x hx
    obtain ⟨j, hj, rfl⟩ := List.mem_iff_getElem.1 hx
    have := hne j hj
    rwa [List.getD_eq_getElem?_getD, List.getElem?_eq_getElem hj] at this
  unfold fixI
  rw [e]
theorem fixI_any (p : Int → Bool) (xs : List Int) : decide (0 ≤ fixI p xs) = xs.any p := by
  unfold fixI
  rcases h : xs.findIdx? p with _ | i
  · rw [List.findIdx?_eq_none_iff] at h
    have : xs.any p = false := by rw [List.any_eq_false]; intro x hx; simp [h x hx]
    rw [this]
    rfl
  · obtain ⟨h1, h2, -⟩ := List.findIdx?_eq_some_iff_getElem.1 h
    have : xs.any p = true := List.any_eq_true.2 ⟨_, List.getElem_mem h1, h2⟩
    rw [this]
    simp
set_option maxRecDepth 100000 in
set_option maxHeartbeats 1000000 in
theorem indexFar_any (v : Value) (xs : List Int) (w : World) (h : Rd w v (zv xs)) (hl : xs.length ≤ 1048576) :
    Calls Try.prog 73 #[v, .func (.func 49) #[] #[]] w fun e w' => e = .returned (.int .i64 (fixI farB xs)) ∧ w' = w := by
  obtain ⟨ao, cap, rfl, -, -⟩ := h.numS
  have HR := Lib.hid h
  clear h
  go_enter Try.func73, Try.ntmps73
  go_wp2_with fail
  go_loopw [8] (fun v8 wr => ∃ i : Nat, i ≤ xs.length ∧ v8 = .int .i64 (i : Int) ∧ (∀ j, j < i → farB (xs.getD j 0) = false) ∧ wr = w) (fun v _ => xs.length - (intOf v).toNat)
  case atStart => exact ⟨0, by omega, rfl, fun j hj => absurd hj (Nat.not_lt_zero _), rfl⟩
  case round =>
    obtain ⟨i, hi, rfl, hne, rfl⟩ := hrel
    have HN := Lib.hid hne
    clear hne
    by_cases hlt : i < xs.length
    · have hlt' : (i : Int) < (xs.length : Nat) := by omega
      obtain ⟨g, o, rfl, -, -⟩ := HR.out.some_of (by rw [zv_length]; omega)
      have hc := HR.out.num_at hlt
      have HX := Lib.hid (fun q => fixI_hit hlt q HN.out)
      have HX2 := Lib.hid (show farB (xs.getD i 0) = false → ∀ j, j < i + 1 → farB (xs.getD j 0) = false from fun q j hj => by
        by_cases e : j = i
        · subst e; exact q
        · exact HN.out j (by omega))
      generalize xs.getD i 0 = x at *
      go_wp2_with fail
      refine (tfar_any x wr).mono ?_
      rintro e w2 ⟨rfl, rfl⟩
      cases hq : farB x with
      | true =>
        have HI := Lib.hid (HX.out hq)
        clear hq
        go_wp2_with fail
        go_ret
        exact ⟨by rw [HI.out]; rfl, rfl⟩
      | false =>
        have HI := Lib.hid (HX2.out hq)
        clear hq
        go_wp2_with fail
        go_roundw
        case rel => exact ⟨i + 1, by omega, by go_num, HI.out, by trivial⟩
        case measure => simp [intOf]; omega
    · obtain rfl : i = xs.length := by omega
      have hlt' : ¬ ((xs.length : Nat) : Int) < (xs.length : Nat) := by omega
      have HI := Lib.hid (fixI_miss HN.out)
      go_wp2_with fail
      go_ret
      exact ⟨by rw [HI.out]; rfl, rfl⟩
set_option maxRecDepth 100000 in
theorem containsFar_any (v : Value) (xs : List Int) (w : World) (h : Rd w v (zv xs)) (hl : xs.length ≤ 1048576) :
    Calls Try.prog 50 #[v, .func (.func 49) #[] #[]] w fun e w' => e = .returned (.bool (xs.any farB)) ∧ w' = w := by
  have HI := Lib.hid (indexFar_any v xs w h hl)
  rw [← fixI_any]
  clear h hl
  go_enter Try.func50, Try.ntmps50
  go_wp2_with fail
  refine HI.out.mono ?_
  rintro e w2 ⟨rfl, rfl⟩
  go_wp2_with fail
  go_ret
  exact ⟨rfl, rfl⟩
set_option maxRecDepth 100000 in
set_option maxHeartbeats 1000000 in
theorem indexOdd_any (v : Value) (xs : List Int) (w : World) (h : Rd w v (zv xs)) (hl : xs.length ≤ 1048576) :
    Calls Try.prog 73 #[v, .func (.func 51) #[] #[]] w fun e w' => e = .returned (.int .i64 (fixI oddB xs)) ∧ w' = w := by
  obtain ⟨ao, cap, rfl, -, -⟩ := h.numS
  have HR := Lib.hid h
  clear h
  go_enter Try.func73, Try.ntmps73
  go_wp2_with fail
  go_loopw [8] (fun v8 wr => ∃ i : Nat, i ≤ xs.length ∧ v8 = .int .i64 (i : Int) ∧ (∀ j, j < i → oddB (xs.getD j 0) = false) ∧ wr = w) (fun v _ => xs.length - (intOf v).toNat)
  case atStart => exact ⟨0, by omega, rfl, fun j hj => absurd hj (Nat.not_lt_zero _), rfl⟩
  case round =>
    obtain ⟨i, hi, rfl, hne, rfl⟩ := hrel
    have HN := Lib.hid hne
    clear hne
    by_cases hlt : i < xs.length
    · have hlt' : (i : Int) < (xs.length : Nat) := by omega
      obtain ⟨g, o, rfl, -, -⟩ := HR.out.some_of (by rw [zv_length]; omega)
      have hc := HR.out.num_at hlt
      have HX := Lib.hid (fun q => fixI_hit hlt q HN.out)
      have HX2 := Lib.hid (show oddB (xs.getD i 0) = false → ∀ j, j < i + 1 → oddB (xs.getD j 0) = false from fun q j hj => by
        by_cases e : j = i
        · subst e; exact q
        · exact HN.out j (by omega))
      generalize xs.getD i 0 = x at *
      go_wp2_with fail
      refine (todd_any x wr).mono ?_
      rintro e w2 ⟨rfl, rfl⟩
      cases hq : oddB x with
      | true =>
        have HI := Lib.hid (HX.out hq)
        clear hq
        go_wp2_with fail
        go_ret
        exact ⟨by rw [HI.out]; rfl, rfl⟩
      | false =>
        have HI := Lib.hid (HX2.out hq)
        clear hq
        go_wp2_with fail
        go_roundw
        case rel => exact ⟨i + 1, by omega, by go_num, HI.out, by trivial⟩
        case measure => simp [intOf]; omega
    · obtain rfl : i = xs.length := by omega
      have hlt' : ¬ ((xs.length : Nat) : Int) < (xs.length : Nat) := by omega
      have HI := Lib.hid (fixI_miss HN.out)
      go_wp2_with fail
      go_ret
      exact ⟨by rw [HI.out]; rfl, rfl⟩
set_option maxRecDepth 100000 in
theorem containsOdd_any (v : Value) (xs : List Int) (w : World) (h : Rd w v (zv xs)) (hl : xs.length ≤ 1048576) :
    Calls Try.prog 50 #[v, .func (.func 51) #[] #[]] w fun e w' => e = .returned (.bool (xs.any oddB)) ∧ w' = w := by
  have HI := Lib.hid (indexOdd_any v xs w h hl)
  rw [← fixI_any]
  clear h hl
  go_enter Try.func50, Try.ntmps50
  go_wp2_with fail
  refine HI.out.mono ?_
  rintro e w2 ⟨rfl, rfl⟩
  go_wp2_with fail
  go_ret
  exact ⟨rfl, rfl⟩
end Go.Proofs.Ytpnckphfjcnooaa
