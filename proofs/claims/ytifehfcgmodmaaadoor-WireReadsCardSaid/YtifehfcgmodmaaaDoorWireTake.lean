/- Numbers and texts read: wire.TakeNum, TakeText, Texts, End, and the document's. -/
import Derived.Test.YtifehfcgmodmaaaDoorLive1
import Derived.Test.YtifehfcgmodmaaaDoorRefSum
import Derived.Laws.Bits64
namespace Go.Proofs.YtifehfcgmodmaaaDoor
open Go Go.RowKit
/-- A number, of its bytes, the highest first. -/
def beN (l : List (BitVec 8)) : Nat := l.foldl (fun n c => n * 256 + c.toNat) 0
theorem beN_snoc (l : List (BitVec 8)) (c : BitVec 8) : beN (l ++ [c]) = beN l * 256 + c.toNat := by simp [beN]
theorem beN_lt : ∀ l : List (BitVec 8), beN l < 256 ^ l.length := by
  intro l
  generalize hn : l.length = n
  induction n generalizing l with
  | zero => rw [List.eq_nil_of_length_eq_zero hn]; decide
  | succ n ih =>
    obtain ⟨m, c, rfl⟩ : ∃ m c, l = m ++ [c] := ⟨l.dropLast, l.getLast (by intro h; simp [h] at hn), (List.dropLast_concat_getLast _).symm⟩
    have hm : m.length = n := by simpa using hn
    have := ih m hm
    have hc := c.isLt
    rw [beN_snoc, Nat.pow_succ]
    omega
/-- What TakeNum hands back: a number, the place behind it, and why not. -/
def takeNum (b : List (BitVec 8)) (p W : Int) : Nat × Int × Int :=
  if p < 0 ∨ (b.length : Int) < p ∨ W < 1 ∨ 8 < W then (0, 0, 1) else if (b.length : Int) - p < W then (0, 0, 2) else (beN ((b.drop p.toNat).take W.toNat), p + W, 0)
/-- A byte of those from a place on. -/
def byteFrom (b : List (BitVec 8)) (p i : Nat) : BitVec 8 := b.getD (p + i) 0
theorem take_from_succ (b : List (BitVec 8)) (p i : Nat) (h : p + i < b.length) : (b.drop p).take (i + 1) = (b.drop p).take i ++ [byteFrom b p i] := by
  rw [List.take_add_one]
  congr 1
  rw [List.getElem?_drop, List.getElem?_eq_getElem h]
  unfold byteFrom
  rw [List.getD_eq_getElem?_getD, List.getElem?_eq_getElem h]
  rfl
theorem takeNum_ok {b : List (BitVec 8)} {p W : Int} (h : (takeNum b p W).2.2 = 0) : 0 ≤ p ∧ 1 ≤ W ∧ W ≤ 8 ∧ p + W ≤ b.length := by
  unfold takeNum at h
  split at h
  · cases h
  · split at h
    · cases h
    · omega
def tnV (x : Nat × Int × Int) : Value := .tuple #[.int .u64 ((x.1 : Nat) : Int), .int .i64 x.2.1, .int .i64 x.2.2]
theorem shl_or (n : Nat) (c : BitVec 8) (hn : n < 72057594037927936) : bits .or .u64 ((n : Int) * 256) (bn c) = ((n * 256 + c.toNat : Nat) : Int) := by
  have hc := c.isLt
  show IntKind.u64.wrap ((BitVec.ofInt 64 ((n : Int) * 256) ||| BitVec.ofInt 64 (bn c)).toNat : Int) = _
  have e1 : (BitVec.ofInt 64 ((n : Int) * 256)).toNat = n <<< 8 := by rw [BitVec.toNat_ofInt, Nat.shiftLeft_eq]; omega
  have e2 : (BitVec.ofInt 64 (bn c)).toNat = c.toNat := by unfold bn; rw [BitVec.toNat_ofInt]; omega
  rw [BitVec.toNat_or, e1, e2, ← Nat.shiftLeft_add_eq_or_of_lt hc, Nat.shiftLeft_eq, IntKind.wrap_u64]
  omega
set_option maxRecDepth 100000 in
theorem cut_lh {w : World} {ao : Option Addr} {len cap p n : Nat} {b : List (BitVec 8)} (h : Rd w (.slice ao len cap) (bv b)) (hj : p + n ≤ b.length) (l r : Int) (hl : l = ((p : Nat) : Int)) (hr : r = ((p + n : Nat) : Int)) :
    ∃ ax, (∀ wx, (Instr.slice 25 (.slice ao len cap) (some (.int .i64 l)) (some (.int .i64 r)) none).run Tryd.prog wx = .ok (.slice ax n (cap - p)) wx) ∧ Rd w (.slice ax n (cap - p)) (bv ((b.drop p).take n)) := by
  subst hl hr
  have hs := h.sl
  rw [bv_length] at hs
  have h1 := (h.from (n := p) (by rw [bv_length]; omega)).to (n := n) (by rw [List.length_drop, bv_length]; omega)
  rw [← bv_drop, ← bv_take] at h1
  refine ⟨_, fun wx => ?_, h1⟩
  obtain ⟨i0, hi, hz1, hz2, hz3⟩ := info_parts info_byte
  have hc : Tryd.prog.cellsOf 5 = 1 := by simp [Program.cellsOf, hi, hz2]
  rw [run_slice_lh wx 25 ao len cap Tryd.underlying25 .i64 .i64 ((p : Nat) : Int) ((p + n : Nat) : Int) (by omega) (by omega) (by omega)]
  rw [show Tryd.prog.elem 25 = 5 from rfl, run_sizeOf wx hi]
  simp only [Result.andThen, sliced, Int.toNat_natCast]
  rw [hc, Nat.mul_one, Nat.add_sub_cancel_left]
theorem sub_at (b : List (BitVec 8)) (p n i : Nat) (h : i < n) : ((b.drop p).take n).getD i 0 = byteFrom b p i := by
  unfold byteFrom
  rw [List.getD_eq_getElem?_getD, List.getElem?_take_of_lt h, List.getElem?_drop, List.getD_eq_getElem?_getD]
set_option maxRecDepth 100000 in
set_option maxHeartbeats 1000000 in
theorem takeNum_any (vb : Value) (b : List (BitVec 8)) (p W : Int) (w : World) (hb : Rd w vb (bv b)) (hl : b.length ≤ 1099511627776) :
    Calls Tryd.prog 48 #[vb, .int .i64 p, .int .i64 W] w fun e w' => e = .returned (tnV (takeNum b p W)) ∧ w' = w := by
  have HB := Lib.hid hb
  have HL := Lib.hid hl
  have hbl := bv_length b
  obtain ⟨ab, cb, rfl, -, -, -, -⟩ := hb
  rw [hbl] at HB ⊢
  clear hbl hl
  go_enter Tryd.func48, Tryd.ntmps48
  by_cases h1 : p < 0
  · have HE := Lib.hid (show takeNum b p W = (0, 0, 1) by unfold takeNum; rw [if_pos (.inl h1)])
    go_wp2_with fail
    go_ret3
    exact ⟨by rw [HE.out]; rfl, rfl⟩
  · by_cases h2 : (b.length : Int) < p
    · have HE := Lib.hid (show takeNum b p W = (0, 0, 1) by unfold takeNum; rw [if_pos (.inr (.inl h2))])
      go_wp2_with fail
      go_ret3
      exact ⟨by rw [HE.out]; rfl, rfl⟩
    · by_cases h3 : W < 1
      · have HE := Lib.hid (show takeNum b p W = (0, 0, 1) by unfold takeNum; rw [if_pos (.inr (.inr (.inl h3)))])
        go_wp2_with fail
        go_ret3
        exact ⟨by rw [HE.out]; rfl, rfl⟩
      · by_cases h4 : 8 < W
        · have HE := Lib.hid (show takeNum b p W = (0, 0, 1) by unfold takeNum; rw [if_pos (.inr (.inr (.inr h4)))])
          go_wp2_with fail
          go_ret3
          exact ⟨by rw [HE.out]; rfl, rfl⟩
        · have hn1 : ¬ (p < 0 ∨ (b.length : Int) < p ∨ W < 1 ∨ 8 < W) := by omega
          have hl2 := HL.out
          by_cases h5 : (b.length : Int) - p < W
          · have HE := Lib.hid (show takeNum b p W = (0, 0, 2) by unfold takeNum; rw [if_neg hn1, if_pos h5])
            clear hn1
            go_wp2_with fail
            go_ret3
            exact ⟨by rw [HE.out]; rfl, rfl⟩
          · have HE := Lib.hid (show takeNum b p W = (beN ((b.drop p.toNat).take W.toNat), p + W, 0) by unfold takeNum; rw [if_neg hn1, if_neg h5])
            clear hn1
            obtain ⟨q, rfl⟩ : ∃ q : Nat, p = (q : Int) := ⟨p.toNat, by omega⟩
            obtain ⟨U, rfl⟩ : ∃ U : Nat, W = (U : Int) := ⟨W.toNat, by omega⟩
            rw [Int.toNat_natCast, Int.toNat_natCast] at HE
            obtain ⟨ax, hcut, hrd⟩ := cut_lh HB.out (show q + U ≤ b.length by omega) (q : Int) ((q : Int) + (U : Int)) rfl (by omega)
            have HR := Lib.hid hrd
            have hsu : ((b.drop q).take U).length = U := by rw [List.length_take, List.length_drop]; omega
            have HSu := Lib.hid hsu
            clear hrd hsu
            go_wp2_with fail
            go_loopw [9, 43] (fun v9 v43 wr => ∃ i : Nat, i ≤ U ∧ v43 = .int .i64 i ∧ v9 = .int .u64 ((beN ((b.drop q).take i) : Nat) : Int) ∧ wr = w) (fun _ v _ => U - (intOf v).toNat)
            case atStart => exact ⟨0, by omega, rfl, rfl, rfl⟩
            case round =>
              obtain ⟨i, hi, rfl, rfl, rfl⟩ := hrel
              by_cases hlt : i < U
              · have hlt' : (i : Int) < (U : Int) := by omega
                obtain ⟨g, o, rfl, -, -⟩ := HR.out.some_of (by rw [bv_length, HSu.out]; omega)
                have hcell := HR.out.cell_at (i := i) (by rw [HSu.out]; exact hlt)
                rw [sub_at b q U i hlt] at hcell
                have hlt7 : ((b.drop q).take i).length ≤ 7 := by rw [List.length_take]; omega
                have hbe := Nat.lt_of_lt_of_le (beN_lt ((b.drop q).take i)) (Nat.pow_le_pow_right (by omega) hlt7)
                have hsn := beN_snoc ((b.drop q).take i) (byteFrom b q i)
                rw [← take_from_succ b q i (by omega)] at hsn
                have hso := shl_or (beN ((b.drop q).take i)) (byteFrom b q i) hbe
                have HSn := Lib.hid hsn
                clear hsn hlt7
                generalize beN ((b.drop q).take i) = N at *
                generalize byteFrom b q i = c at *
                have hN : N < 72057594037927936 := hbe
                have hcw : IntKind.u64.wrap (bn c) = bn c := by rw [IntKind.wrap_u64]; exact Int.emod_eq_of_lt (bn_nonneg c) (by have := bn_lt c; omega)
                clear hbe
                go_wp2_with fail
                go_roundw
                case rel => exact ⟨i + 1, by omega, by go_num, by rw [HSn.out]; rfl, trivial⟩
                case measure => simp [intOf]; omega
              · obtain rfl : i = U := by omega
                have hlt' : ¬ (i : Int) < (i : Int) := by omega
                go_wp2_with fail
                go_ret3
                exact ⟨by rw [HE.out]; rfl, rfl⟩
/-- A place is one. -/
def plc (p : Int) (n : Nat) : Bool := decide (0 ≤ p ∧ p ≤ (n : Int))
theorem place_any (ab : Option Addr) (n cb : Nat) (p : Int) (w : World) :
    Calls Tryd.prog 78 #[.slice ab n cb, .int .i64 p] w fun e w' => e = .returned (.bool (plc p n)) ∧ w' = w := by
  go_enter Tryd.func78, Tryd.ntmps78
  by_cases h1 : 0 ≤ p
  · by_cases h2 : p ≤ n
    · go_wp2_with fail
      go_ret
      exact ⟨by rw [show plc p n = true from decide_eq_true (by omega)]; rfl, rfl⟩
    · go_wp2_with fail
      go_ret
      exact ⟨by rw [show plc p n = false from decide_eq_false (by omega)]; rfl, rfl⟩
  · go_wp2_with fail
    go_ret
    exact ⟨by rw [show plc p n = false from decide_eq_false (by omega)]; rfl, rfl⟩
set_option maxRecDepth 100000 in
set_option maxHeartbeats 1000000 in
theorem refTakeNum_any (vb : Value) (b : List (BitVec 8)) (p W : Int) (w : World) (hb : Rd w vb (bv b)) (hl : b.length ≤ 1099511627776) :
    Calls Tryd.prog 52 #[vb, .int .i64 p, .int .i64 W] w fun e w' => e = .returned (tnV (takeNum b p W)) ∧ w' = w := by
  have HB := Lib.hid hb
  have HL := Lib.hid hl
  have hbl := bv_length b
  obtain ⟨ab, cb, rfl, -, -, -, -⟩ := hb
  rw [hbl] at HB ⊢
  clear hbl hl
  go_enter Tryd.func52, Tryd.ntmps52
  go_wp2_with fail
  refine (place_any ab b.length cb p w).mono ?_
  rintro e w' ⟨rfl, rfl⟩
  by_cases h1 : 0 ≤ p ∧ p ≤ b.length
  · rw [show plc p b.length = true from decide_eq_true h1]
    by_cases h3 : W < 1
    · have HE := Lib.hid (show takeNum b p W = (0, 0, 1) by unfold takeNum; rw [if_pos (.inr (.inr (.inl h3)))])
      go_wp2_with fail
      go_ret3
      exact ⟨by rw [HE.out]; rfl, rfl⟩
    · by_cases h4 : 8 < W
      · have HE := Lib.hid (show takeNum b p W = (0, 0, 1) by unfold takeNum; rw [if_pos (.inr (.inr (.inr h4)))])
        go_wp2_with fail
        go_ret3
        exact ⟨by rw [HE.out]; rfl, rfl⟩
      · have hn1 : ¬ (p < 0 ∨ (b.length : Int) < p ∨ W < 1 ∨ 8 < W) := by omega
        have hl2 := HL.out
        by_cases h5 : (b.length : Int) - p < W
        · have HE := Lib.hid (show takeNum b p W = (0, 0, 2) by unfold takeNum; rw [if_neg hn1, if_pos h5])
          clear hn1
          go_wp2_with fail
          go_ret3
          exact ⟨by rw [HE.out]; rfl, rfl⟩
        · have HE := Lib.hid (show takeNum b p W = (beN ((b.drop p.toNat).take W.toNat), p + W, 0) by unfold takeNum; rw [if_neg hn1, if_neg h5])
          clear hn1
          obtain ⟨h1a, h1b⟩ := h1
          obtain ⟨q, rfl⟩ : ∃ q : Nat, p = (q : Int) := ⟨p.toNat, by omega⟩
          obtain ⟨U, rfl⟩ : ∃ U : Nat, W = (U : Int) := ⟨W.toNat, by omega⟩
          rw [Int.toNat_natCast, Int.toNat_natCast] at HE
          go_wp2_with fail
          go_loopw [9, 30] (fun v9 v30 wr => ∃ i : Nat, i ≤ U ∧ v30 = .int .i64 i ∧ v9 = .int .u64 ((beN ((b.drop q).take i) : Nat) : Int) ∧ wr = w') (fun _ v _ => U - (intOf v).toNat)
          case atStart => exact ⟨0, by omega, rfl, rfl, rfl⟩
          case round =>
            obtain ⟨i, hi, rfl, rfl, rfl⟩ := hrel
            by_cases hlt : i < U
            · have hlt' : (i : Int) < (U : Int) := by omega
              obtain ⟨g, o, rfl, -, -⟩ := HB.out.some_of (by rw [bv_length]; omega)
              have hcell := HB.out.cell_at (i := q + i) (by omega)
              have hcell2 : wr.cell? ⟨g, o + (q + i), none⟩ = some (.int .u8 (bn (byteFrom b q i))) := hcell
              clear hcell
              have hlt7 : ((b.drop q).take i).length ≤ 7 := by rw [List.length_take]; omega
              have hbe := Nat.lt_of_lt_of_le (beN_lt ((b.drop q).take i)) (Nat.pow_le_pow_right (by omega) hlt7)
              have hsn := beN_snoc ((b.drop q).take i) (byteFrom b q i)
              rw [← take_from_succ b q i (by omega)] at hsn
              have HSn := Lib.hid hsn
              have hqi : q + i < b.length := by omega
              clear hsn hlt7
              generalize beN ((b.drop q).take i) = N at *
              generalize byteFrom b q i = c at *
              have hN : N < 72057594037927936 := hbe
              have hcw : IntKind.u64.wrap (bn c) = bn c := by rw [IntKind.wrap_u64]; exact Int.emod_eq_of_lt (bn_nonneg c) (by have := bn_lt c; omega)
              have hc0 := bn_nonneg c
              have hc1 := bn_lt c
              clear hbe
              go_wp2_with fail
              go_roundw
              case rel => exact ⟨i + 1, by omega, by go_num, by rw [HSn.out]; rfl, trivial⟩
              case measure => simp [intOf]; omega
            · obtain rfl : i = U := by omega
              have hlt' : ¬ (i : Int) < (i : Int) := by omega
              go_wp2_with fail
              go_ret3
              exact ⟨by rw [HE.out]; rfl, rfl⟩
  · rw [show plc p b.length = false from decide_eq_false h1]
    have HE := Lib.hid (show takeNum b p W = (0, 0, 1) by unfold takeNum; rw [if_pos (by omega)])
    go_wp2_with fail
    go_ret3
    exact ⟨by rw [HE.out]; rfl, rfl⟩
end Go.Proofs.YtifehfcgmodmaaaDoor
