/- Small functions of law 24's document: has, in. -/
import Derived.Test.YtfgammcefaomeaaK1
import Derived.Test.YtfgammcefaomeaaB2
namespace Go.Proofs.Ytfgammcefaomeaa
open Go Go.RowKit
set_option maxRecDepth 100000 in
set_option maxHeartbeats 1000000 in
theorem khas_any (v : Value) (y : Int) (xs : List Int) (w : World) (h : Rd w v (zv xs)) (hl : xs.length ≤ 9223372036854775000) :
    Calls Try.prog 60 #[v, .int .i64 y] w fun e w' => e = .returned (.bool (decide (y ∈ xs))) ∧ w' = w := by
  obtain ⟨ao, cap, rfl, -, -⟩ := h.numS
  have HR := Lib.hid h
  have HB := Lib.hid (show (∃ i, i < xs.length ∧ xs.getD i 0 = y) → y ∈ xs from fun ⟨i, hi, e⟩ => by
    rw [← e, List.getD_eq_getElem?_getD, List.getElem?_eq_getElem hi]
    exact List.getElem_mem hi)
  have HN := Lib.hid (show (∀ i, i < xs.length → xs.getD i 0 ≠ y) → y ∉ xs from fun hn hm => by
    obtain ⟨i, hi, e⟩ := List.getElem_of_mem hm
    refine hn i hi ?_
    rw [List.getD_eq_getElem?_getD, List.getElem?_eq_getElem hi]
    exact e)
  clear h
  go_enter Try.func60, Try.ntmps60
  go_wp2_with fail
  go_loopw [9] (fun v9 wr => ∃ i : Nat, i ≤ xs.length ∧ v9 = .int .i64 (i : Int) ∧ (∀ j, j < i → xs.getD j 0 ≠ y) ∧ wr = w) (fun v _ => xs.length - (intOf v).toNat)
  case atStart => exact ⟨0, Nat.zero_le _, rfl, fun j hj => absurd hj (Nat.not_lt_zero _), rfl⟩
  case round =>
    obtain ⟨i, hi, rfl, hn, rfl⟩ := hrel
    have HM := Lib.hid hn
    clear hn
    by_cases hlt : i < xs.length
    · have hlt' : (i : Int) < (xs.length : Nat) := by omega
      obtain ⟨b, o, rfl, -, -⟩ := HR.out.some_of (by rw [zv_length]; omega)
      have hc := HR.out.num_at hlt
      by_cases he : xs.getD i 0 = y
      · have HI := Lib.hid (HB.out ⟨i, hlt, he⟩)
        rw [he] at hc
        go_wp2_with fail
        go_ret
        exact ⟨by rw [decide_eq_true HI.out]; rfl, rfl⟩
      · have HS := Lib.hid (show ∀ j, j < i + 1 → xs.getD j 0 ≠ y from fun j hj => by
          by_cases e : j = i
          · subst e; exact he
          · exact HM.out j (by omega))
        generalize xs.getD i 0 = z at *
        go_wp2_with fail
        go_roundw
        case rel => exact ⟨i + 1, by omega, by go_num, HS.out, trivial⟩
        case measure => simp [intOf]; omega
    · obtain rfl : i = xs.length := by omega
      have hlt' : ¬ ((xs.length : Nat) : Int) < (xs.length : Nat) := by omega
      have HI := Lib.hid (HN.out HM.out)
      go_wp2_with fail
      go_ret
      exact ⟨by rw [decide_eq_false HI.out]; rfl, rfl⟩
set_option maxRecDepth 100000 in
set_option maxHeartbeats 1000000 in
theorem kin_any (v : Value) (y : Int) (xs : List Int) (w : World) (h : Rd w v (zv xs)) (hl : xs.length ≤ 9223372036854775000) :
    Calls Try.prog 58 #[v, .int .i64 y] w fun e w' => e = .returned (.bool (xs.all fun x => decide (0 ≤ x ∧ x < y))) ∧ w' = w := by
  obtain ⟨ao, cap, rfl, -, -⟩ := h.numS
  have HR := Lib.hid h
  have HB := Lib.hid (show (∃ i, i < xs.length ∧ ¬ (0 ≤ xs.getD i 0 ∧ xs.getD i 0 < y)) → (xs.all fun x => decide (0 ≤ x ∧ x < y)) = false from fun ⟨i, hi, e⟩ => by
    rw [List.all_eq_false]
    refine ⟨xs.getD i 0, ?_, by simpa using e⟩
    rw [List.getD_eq_getElem?_getD, List.getElem?_eq_getElem hi]
    exact List.getElem_mem hi)
  have HN := Lib.hid (show (∀ i, i < xs.length → 0 ≤ xs.getD i 0 ∧ xs.getD i 0 < y) → (xs.all fun x => decide (0 ≤ x ∧ x < y)) = true from fun hn => by
    rw [List.all_eq_true]
    intro x hm
    obtain ⟨i, hi, rfl⟩ := List.getElem_of_mem hm
    have := hn i hi
    rw [List.getD_eq_getElem?_getD, List.getElem?_eq_getElem hi] at this
    simpa using this)
  generalize (xs.all fun x => decide (0 ≤ x ∧ x < y)) = bq at *
  clear h
  go_enter Try.func58, Try.ntmps58
  go_wp2_with fail
  go_loopw [9] (fun v9 wr => ∃ i : Nat, i ≤ xs.length ∧ v9 = .int .i64 (i : Int) ∧ (∀ j, j < i → 0 ≤ xs.getD j 0 ∧ xs.getD j 0 < y) ∧ wr = w) (fun v _ => xs.length - (intOf v).toNat)
  case atStart => exact ⟨0, Nat.zero_le _, rfl, fun j hj => absurd hj (Nat.not_lt_zero _), rfl⟩
  case round =>
    obtain ⟨i, hi, rfl, hn, rfl⟩ := hrel
    have HM := Lib.hid hn
    clear hn
    by_cases hlt : i < xs.length
    · have hlt' : (i : Int) < (xs.length : Nat) := by omega
      obtain ⟨b, o, rfl, -, -⟩ := HR.out.some_of (by rw [zv_length]; omega)
      have hc := HR.out.num_at hlt
      by_cases h1 : xs.getD i 0 < 0
      · have HI := Lib.hid (HB.out ⟨i, hlt, fun q => by omega⟩)
        generalize xs.getD i 0 = z at *
        go_wp2_with fail
        go_ret
        exact ⟨by rw [HI.out]; rfl, rfl⟩
      by_cases h2 : y ≤ xs.getD i 0
      · have HI := Lib.hid (HB.out ⟨i, hlt, fun q => by omega⟩)
        generalize xs.getD i 0 = z at *
        go_wp2_with fail
        go_ret
        exact ⟨by rw [HI.out]; rfl, rfl⟩
      · have HS := Lib.hid (show ∀ j, j < i + 1 → 0 ≤ xs.getD j 0 ∧ xs.getD j 0 < y from fun j hj => by
          by_cases e : j = i
          · subst e; omega
          · exact HM.out j (by omega))
        generalize xs.getD i 0 = z at *
        go_wp2_with fail
        go_roundw
        case rel => exact ⟨i + 1, by omega, by go_num, HS.out, trivial⟩
        case measure => simp [intOf]; omega
    · obtain rfl : i = xs.length := by omega
      have hlt' : ¬ ((xs.length : Nat) : Int) < (xs.length : Nat) := by omega
      have HI := Lib.hid (HN.out HM.out)
      go_wp2_with fail
      go_ret
      exact ⟨by rw [HI.out]; rfl, rfl⟩
end Go.Proofs.Ytfgammcefaomeaa
