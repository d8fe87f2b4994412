/- coterieref24.all. -/
import Derived.Test.YtfgammcefaomeaaK2
namespace Go.Proofs.Ytfgammcefaomeaa
open Go Go.RowKit
set_option maxRecDepth 100000 in
set_option maxHeartbeats 1000000 in
theorem kall_any (v u : Value) (l m : List Int) (w : World) (h : Rd w v (zv l)) (hl : l.length ≤ 9223372036854775000) (hu : Rd w u (zv m)) (hm : m.length ≤ 9223372036854775000) :
    Calls Try.prog 61 #[v, u] w fun e w' => e = .returned (.bool (decide (∀ x ∈ m, x ∈ l))) ∧ w' = w := by
  have HH := Lib.hid (fun (y : Int) => khas_any v y l w h hl)
  obtain ⟨ao, cap, rfl, -, -⟩ := h.numS
  obtain ⟨bo, dap, rfl, -, -⟩ := hu.numS
  have HR := Lib.hid hu
  have HB := Lib.hid (show (∃ i, i < m.length ∧ m.getD i 0 ∉ l) → ¬ ∀ x ∈ m, x ∈ l from fun ⟨i, hi, e⟩ q => e (q _ (by
    rw [List.getD_eq_getElem?_getD, List.getElem?_eq_getElem hi]
    exact List.getElem_mem hi)))
  have HN := Lib.hid (show (∀ i, i < m.length → m.getD i 0 ∈ l) → ∀ x ∈ m, x ∈ l from fun hn x hx => by
    obtain ⟨i, hi, rfl⟩ := List.getElem_of_mem hx
    have := hn i hi
    rwa [List.getD_eq_getElem?_getD, List.getElem?_eq_getElem hi] at this)
  clear h hu
  go_enter Try.func61, Try.ntmps61
  go_wp2_with fail
  go_loopw [9] (fun v9 wr => ∃ i : Nat, i ≤ m.length ∧ v9 = .int .i64 (i : Int) ∧ (∀ j, j < i → m.getD j 0 ∈ l) ∧ wr = w) (fun v _ => m.length - (intOf v).toNat)
  case atStart => exact ⟨0, Nat.zero_le _, rfl, fun j hj => absurd hj (Nat.not_lt_zero _), rfl⟩
  case round =>
    obtain ⟨i, hi, rfl, hn, rfl⟩ := hrel
    have HM := Lib.hid hn
    clear hn
    by_cases hlt : i < m.length
    · have hlt' : (i : Int) < (m.length : Nat) := by omega
      obtain ⟨b, o, rfl, -, -⟩ := HR.out.some_of (by rw [zv_length]; omega)
      have hc := HR.out.num_at hlt
      have HC := Lib.hid (HH.out (m.getD i 0))
      by_cases he : m.getD i 0 ∈ l
      · have HS := Lib.hid (show ∀ j, j < i + 1 → m.getD j 0 ∈ l from fun j hj => by
          by_cases e : j = i
          · subst e; exact he
          · exact HM.out j (by omega))
        rw [decide_eq_true he] at HC
        generalize m.getD i 0 = z at *
        clear he
        go_wp2_with fail
        refine HC.out.mono ?_
        rintro e w2 ⟨rfl, rfl⟩
        go_wp2_with fail
        go_roundw
        case rel => exact ⟨i + 1, by omega, by go_num, HS.out, trivial⟩
        case measure => simp [intOf]; omega
      · have HI := Lib.hid (HB.out ⟨i, hlt, he⟩)
        rw [decide_eq_false he] at HC
        generalize m.getD i 0 = z at *
        clear he
        go_wp2_with fail
        refine HC.out.mono ?_
        rintro e w2 ⟨rfl, rfl⟩
        go_wp2_with fail
        go_ret
        exact ⟨by rw [decide_eq_false HI.out]; rfl, rfl⟩
    · obtain rfl : i = m.length := by omega
      have hlt' : ¬ ((m.length : Nat) : Int) < (m.length : Nat) := by omega
      have HI := Lib.hid (HN.out HM.out)
      go_wp2_with fail
      go_ret
      exact ⟨by rw [decide_eq_true HI.out]; rfl, rfl⟩
end Go.Proofs.Ytfgammcefaomeaa
