/- coterielaw01.WireOrder: it answers true. -/
import Derived.Test.YtifehfcgmodmaaaDoorLive1
namespace Go.Proofs.YtifehfcgmodmaaaDoor
open Go Go.RowKit
theorem mod_succ (n W : Nat) : n % 256 ^ (W + 1) = (n / 256 ^ W % 256) * 256 ^ W + n % 256 ^ W := by
  rw [Nat.pow_succ, Nat.mod_mul, Nat.mul_comm, Nat.add_comm]
theorem u8_nat (x : Nat) : (UInt8.ofBitVec (BitVec.ofNat 8 x)).toNat = x % 256 := by
  show (BitVec.ofNat 8 x).toNat = _
  rw [BitVec.toNat_ofNat]
theorem u8_lt (x y : Nat) : UInt8.ofBitVec (BitVec.ofNat 8 x) < UInt8.ofBitVec (BitVec.ofNat 8 y) ↔ x % 256 < y % 256 := by
  rw [UInt8.lt_iff_toNat_lt, u8_nat, u8_nat]
theorem u8_eq (x y : Nat) : (UInt8.ofBitVec (BitVec.ofNat 8 x) == UInt8.ofBitVec (BitVec.ofNat 8 y)) = decide (x % 256 = y % 256) := by
  by_cases h : x % 256 = y % 256
  · rw [decide_eq_true h, beq_iff_eq]
    apply UInt8.toNat_inj.1
    rw [u8_nat, u8_nat, h]
  · rw [decide_eq_false h, beq_eq_false_iff_ne]
    intro e
    have := congrArg UInt8.toNat e
    rw [u8_nat, u8_nat] at this
    exact h this
theorem two_lt (p q r s P : Nat) (hr : r < P) (hs : s < P) : p * P + r < q * P + s ↔ p < q ∨ (p = q ∧ r < s) := by
  constructor
  · intro h
    by_cases h1 : p < q
    · exact .inl h1
    · by_cases h2 : p = q
      · subst h2; exact .inr ⟨rfl, by omega⟩
      · have h3 : (q + 1) * P ≤ p * P := Nat.mul_le_mul_right P (by omega)
        rw [Nat.add_mul, Nat.one_mul] at h3
        omega
  · rintro (h | ⟨rfl, h⟩)
    · have h3 : (p + 1) * P ≤ q * P := Nat.mul_le_mul_right P (by omega)
      rw [Nat.add_mul, Nat.one_mul] at h3
      omega
    · omega
theorem less_be : ∀ W a b : Nat, Op.bytesLess ((beL W a).map UInt8.ofBitVec) ((beL W b).map UInt8.ofBitVec) = decide (a % 256 ^ W < b % 256 ^ W)
  | 0, a, b => by rw [Nat.pow_zero, Nat.mod_one, Nat.mod_one]; rfl
  | W + 1, a, b => by
    have hp : 0 < 256 ^ W := Nat.pow_pos (by omega)
    rw [beL, beL, List.map_cons, List.map_cons, Op.bytesLess, less_be W a b, u8_eq, mod_succ a, mod_succ b]
    have h := two_lt (a / 256 ^ W % 256) (b / 256 ^ W % 256) (a % 256 ^ W) (b % 256 ^ W) (256 ^ W) (Nat.mod_lt _ hp) (Nat.mod_lt _ hp)
    have h2 := u8_lt (a / 256 ^ W) (b / 256 ^ W)
    rw [Bool.eq_iff_iff, decide_eq_true_iff, h, Bool.or_eq_true, Bool.and_eq_true, decide_eq_true_iff, decide_eq_true_iff, decide_eq_true_iff, h2]
theorem beL_inj : ∀ W a b : Nat, beL W a = beL W b ↔ a % 256 ^ W = b % 256 ^ W
  | 0, a, b => by rw [Nat.pow_zero, Nat.mod_one, Nat.mod_one]; simp [beL]
  | W + 1, a, b => by
    have hp : 0 < 256 ^ W := Nat.pow_pos (by omega)
    rw [beL, beL, List.cons.injEq, beL_inj W a b, mod_succ a, mod_succ b]
    have e : BitVec.ofNat 8 (a / 256 ^ W) = BitVec.ofNat 8 (b / 256 ^ W) ↔ a / 256 ^ W % 256 = b / 256 ^ W % 256 := by
      constructor
      · intro h; have := congrArg BitVec.toNat h; simpa using this
      · intro h; apply BitVec.eq_of_toNat_eq; simpa using h
    rw [e]
    have h1 := two_lt (a / 256 ^ W % 256) (b / 256 ^ W % 256) (a % 256 ^ W) (b % 256 ^ W) (256 ^ W) (Nat.mod_lt _ hp) (Nat.mod_lt _ hp)
    have h2 := two_lt (b / 256 ^ W % 256) (a / 256 ^ W % 256) (b % 256 ^ W) (a % 256 ^ W) (256 ^ W) (Nat.mod_lt _ hp) (Nat.mod_lt _ hp)
    constructor
    · rintro ⟨h, k⟩; rw [h, k]
    · intro h
      have n1 : ¬ (a / 256 ^ W % 256 < b / 256 ^ W % 256 ∨ (a / 256 ^ W % 256 = b / 256 ^ W % 256 ∧ a % 256 ^ W < b % 256 ^ W)) := fun k => by have := h1.2 k; omega
      have n2 : ¬ (b / 256 ^ W % 256 < a / 256 ^ W % 256 ∨ (b / 256 ^ W % 256 = a / 256 ^ W % 256 ∧ b % 256 ^ W < a % 256 ^ W)) := fun k => by have := h2.2 k; omega
      omega
theorem be_less (U a b : Nat) (ha : a < 256 ^ U) (hb : b < 256 ^ U) : Op.bytesLess (bstr (beL U a)).toList (bstr (beL U b)).toList = decide ((a : Int) < (b : Int)) := by
  rw [bstr_toList, bstr_toList, less_be, Nat.mod_eq_of_lt ha, Nat.mod_eq_of_lt hb]
  exact decide_eq_decide.2 (by omega)
theorem be_same (U a b : Nat) (ha : a < 256 ^ U) (hb : b < 256 ^ U) : decide (beL U a = beL U b) = decide ((a : Int) = (b : Int)) := by
  refine decide_eq_decide.2 ?_
  rw [beL_inj, Nat.mod_eq_of_lt ha, Nat.mod_eq_of_lt hb]
  omega
theorem numOk_one (W : Int) (a : Nat) : numOk W [a] = (decide (1 ≤ W) && (decide (W ≤ 8) && fitsB W.toNat a)) := by simp [numOk, overB]
theorem rd_num (w : World) (a : Nat) : Rd (w.alloc (.cells #[.int .u64 (a : Int)] 35)) (.slice (some ⟨w.heap.size, 0, none⟩) 1 1) (nv [a]) := Rd.lit w #[.int .u64 (a : Int)] 35 1 rfl (by decide)
set_option maxRecDepth 100000 in
set_option maxHeartbeats 2000000 in
theorem wireOrder_any (a b : Nat) (W : Int) (w : World) (ha : a < 18446744073709551616) (hb : b < 18446744073709551616) :
    Calls Tryd.prog 13 #[.int .u64 (a : Int), .int .u64 (b : Int), .int .i64 W] w fun e w' => e = .returned (.bool true) ∧ Below w.heap.size w w' := by
  have HL := Lib.hid (live1_any w)
  go_enter Tryd.func13, Tryd.ntmps13
  go_wp2_with fail
  refine HL.out.mono ?_
  rintro e w1 ⟨rfl, hb1⟩
  have HB1 := Lib.hid (show Aft w w1 from hb1)
  have HN1 := Lib.hid (num_any (.slice none 0 0) _ [] W [a] _ (Rd.nil _) (rd_num w1 a) (by simpa using ha) (by simp) (by simp))
  clear hb1
  go_wp2_with fail
  refine HN1.out.mono ?_
  rintro e w2 ⟨a2, c2, rfl, ho2, hb2⟩
  have HB2 := Lib.hid (show Aft w1 w2 from Aft.trans (Aft.alloc w1 _) hb2)
  have HR2 := Lib.hid (Rd.of_own ho2)
  have HN2 := Lib.hid (num_any (.slice none 0 0) _ [] W [b] _ (Rd.nil _) (rd_num w2 b) (by simpa using hb) (by simp) (by simp))
  clear ho2 hb2
  go_wp2_with fail
  refine HN2.out.mono ?_
  rintro e w3 ⟨a3, c3, rfl, ho3, hb3⟩
  have HB3 := Lib.hid (show Aft w2 w3 from Aft.trans (Aft.alloc w2 _) hb3)
  have HR3 := Lib.hid (Rd.of_own ho3)
  have HR23 := Lib.hid (HR2.out.grow HB3.out)
  have HBW := Lib.hid (show Below w.heap.size w w3 from Aft.trans HB1.out (Aft.trans HB2.out HB3.out))
  clear ho3 hb3
  have HKa := Lib.hid (numOk_one W a)
  have HKb := Lib.hid (numOk_one W b)
  by_cases hk : numOk W [a] = true ∧ numOk W [b] = true
  · obtain ⟨ka, kb⟩ := hk
    have h1 := HKa.out
    rw [ka] at h1
    simp only [Bool.true_eq, Bool.and_eq_true, decide_eq_true_eq] at h1
    have h2 := HKb.out
    rw [kb] at h2
    simp only [Bool.true_eq, Bool.and_eq_true, decide_eq_true_eq] at h2
    obtain ⟨U, rfl⟩ : ∃ U : Nat, W = (U : Int) := ⟨W.toNat, by omega⟩
    rw [Int.toNat_natCast] at h1 h2
    have fa : a < 256 ^ U := of_decide_eq_true h1.2.2
    have fb : b < 256 ^ U := of_decide_eq_true h2.2.2
    have ea : numErr (U : Int) [a] = 0 := by unfold numErr; rw [if_pos ka]
    have eb : numErr (U : Int) [b] = 0 := by unfold numErr; rw [if_pos kb]
    have na : numB [] (U : Int) [a] = beL U a := by unfold numB; rw [if_pos ka, Int.toNat_natCast]; simp [numsB]
    have nb : numB [] (U : Int) [b] = beL U b := by unfold numB; rw [if_pos kb, Int.toNat_natCast]; simp [numsB]
    rw [na] at HR23
    rw [nb] at HR3
    rw [ea, eb, na, nb]
    have hl := be_less U a b fa fb
    have hs := be_same U a b fa fb
    have s1 := run_str (P := Tryd.prog) (dst := 9) Tryd.underlying25 Tryd.underlying5 Tryd.underlying9 HR23.out
    have s2 := run_str (P := Tryd.prog) (dst := 9) Tryd.underlying25 Tryd.underlying5 Tryd.underlying9 HR3.out
    have HS := Lib.hid hs
    clear ka kb h1 h2 fa fb ea eb na nb hs
    generalize beL U a = X at *
    generalize beL U b = Y at *
    go_wp2_with fail
    refine (same_any _ _ X Y w3 HR23.out HR3.out).mono ?_
    rintro e w4 ⟨rfl, rfl⟩
    rw [HS.out]
    go_wp2_with fail
    go_ret
    exact ⟨by simp; rfl, HBW.out⟩
  · have e1 : ∀ x, numOk W [x] = false → numErr W [x] = 1 := fun x h => by unfold numErr; rw [h]; rfl
    have e0 : ∀ x, numOk W [x] = true → numErr W [x] = 0 := fun x h => by unfold numErr; rw [if_pos h]
    have HE := Lib.hid (show numErr W [a] = 1 ∨ (numErr W [a] = 0 ∧ numErr W [b] = 1) by
      cases ka : numOk W [a] with
      | false => exact .inl (e1 a ka)
      | true => cases kb : numOk W [b] with
        | false => exact .inr ⟨e0 a ka, e1 b kb⟩
        | true => exact absurd ⟨ka, kb⟩ hk)
    have HT : W < 1 ∨ 8 < W ∨ ∃ U : Nat, W = (U : Int) ∧ 1 ≤ U ∧ U < 8 ∧ ((0 : Int) < (a : Int) / 2 ^ (8 * U) ∨ (0 : Int) < (b : Int) / 2 ^ (8 * U)) := by
      by_cases h1 : W < 1
      · exact .inl h1
      · by_cases h2 : 8 < W
        · exact .inr (.inl h2)
        · obtain ⟨U, rfl⟩ : ∃ U : Nat, W = (U : Int) := ⟨W.toNat, by omega⟩
          refine .inr (.inr ⟨U, rfl, ?_⟩)
          have ka := HKa.out
          have kb := HKb.out
          rw [decide_eq_true (show (1 : Int) ≤ U by omega), decide_eq_true (show (U : Int) ≤ 8 by omega), Int.toNat_natCast, Bool.true_and, Bool.true_and] at ka kb
          rw [ka, kb] at hk
          have hU : U < 8 := by
            refine Classical.byContradiction fun h => hk ?_
            rw [show U = 8 by omega]
            exact ⟨fits_8 a ha, fits_8 b hb⟩
          refine ⟨by omega, hU, Classical.byContradiction fun h => hk ⟨(fits_shr U a).2 fun h2 => h (.inl h2), (fits_shr U b).2 fun h2 => h (.inr h2)⟩⟩
    clear e1 e0 hk
    have HT := Lib.hid HT
    generalize numErr W [a] = p at *
    generalize numErr W [b] = q at *
    rcases HE.out with he | ⟨he1, he2⟩
    · subst he
      rcases HT.out with h1 | h2 | ⟨U, rfl, hU1, hU, h3⟩
      · go_wp2_with fail
        go_ret
        exact ⟨rfl, HBW.out⟩
      · have h1 : ¬ W < 1 := by omega
        go_wp2_with fail
        go_ret
        exact ⟨rfl, HBW.out⟩
      · have i1 : ¬ (U : Int) < 1 := by omega
        have i2 : ¬ (8 : Int) < (U : Int) := by omega
        have i3 : (U : Int) < 8 := by omega
        by_cases h4 : (0 : Int) < (a : Int) / 2 ^ (8 * U)
        · go_wp2_with fail
          go_ret
          exact ⟨rfl, HBW.out⟩
        · have h5 : (0 : Int) < (b : Int) / 2 ^ (8 * U) := h3.resolve_left h4
          go_wp2_with fail
          go_ret
          exact ⟨rfl, HBW.out⟩
    · subst he1 he2
      rcases HT.out with h1 | h2 | ⟨U, rfl, hU1, hU, h3⟩
      · go_wp2_with fail
        go_ret
        exact ⟨rfl, HBW.out⟩
      · have h1 : ¬ W < 1 := by omega
        go_wp2_with fail
        go_ret
        exact ⟨rfl, HBW.out⟩
      · have i1 : ¬ (U : Int) < 1 := by omega
        have i2 : ¬ (8 : Int) < (U : Int) := by omega
        have i3 : (U : Int) < 8 := by omega
        by_cases h4 : (0 : Int) < (a : Int) / 2 ^ (8 * U)
        · go_wp2_with fail
          go_ret
          exact ⟨rfl, HBW.out⟩
        · have h5 : (0 : Int) < (b : Int) / 2 ^ (8 * U) := h3.resolve_left h4
          go_wp2_with fail
          go_ret
          exact ⟨rfl, HBW.out⟩
end Go.Proofs.YtifehfcgmodmaaaDoor
