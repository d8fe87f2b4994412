/- coterielaw01.WireReads: it answers true. -/
import Derived.Test.YtifehfcgmodmaaaDoorWireAll
namespace Go.Proofs.YtifehfcgmodmaaaDoor
open Go Go.RowKit
theorem tmod3000 (m : Int) : m.tmod 3000 < 3000 ∧ -3000 < m.tmod 3000 := ⟨Int.tmod_lt_of_pos m (by omega), Int.lt_tmod_of_pos m (by omega)⟩
theorem textsGo_le (b : List (BitVec 8)) : ∀ (i : Nat) (p : Int), (textsGo b i p).1.length ≤ i
  | 0, p => by simp [textsGo]
  | i + 1, p => by
    unfold textsGo
    split
    · simp
    · split
      · simp
      · simp only [List.length_cons]
        have := textsGo_le b i (takeText b p).2.1
        omega
theorem texts_len (b : List (BitVec 8)) (p many : Int) : (texts b p many).1.length ≤ many.toNat := by
  unfold texts
  split
  · simp
  · exact textsGo_le b _ _
set_option maxRecDepth 100000 in
set_option maxHeartbeats 2000000 in
theorem wireReads_any (vb : Value) (b : List (BitVec 8)) (p W m : Int) (w : World) (hb : Rd w vb (bv b)) :
    Calls Tryd.prog 16 #[vb, .int .i64 p, .int .i64 W, .int .i64 m] w fun e w' => e = .returned (.bool true) ∧ Below w.heap.size w w' := by
  have HB := Lib.hid hb
  obtain ⟨ab, cb, rfl, -, -, -, -⟩ := hb
  have HL := Lib.hid (live1_any w)
  go_enter Tryd.func16, Tryd.ntmps16
  go_wp2_with fail
  refine HL.out.mono ?_
  rintro e w1 ⟨rfl, hb1⟩
  have HB1 := Lib.hid (show Aft w w1 from hb1)
  clear hb1
  by_cases h1 : (3000 : Int) < ((bv b).length : Nat)
  · go_wp2_with fail
    go_ret
    exact ⟨rfl, HB1.out⟩
  · have hlb : b.length ≤ 1099511627776 := by rw [bv_length] at h1; omega
    have HRb := Lib.hid (HB.out.grow HB1.out)
    have HLb := Lib.hid hlb
    obtain ⟨n, q, e, hn⟩ : ∃ n q e, takeNum b p W = (n, q, e) := ⟨_, _, _, rfl⟩
    have hT1 := takeNum_any _ b p W w1 HRb.out hlb
    have hT2 := refTakeNum_any _ b p W w1 HRb.out hlb
    rw [hn] at hT1 hT2
    unfold tnV at hT1 hT2
    have HT1 := Lib.hid hT1
    have HT2 := Lib.hid hT2
    obtain ⟨t, r, f, ht⟩ : ∃ t r f, takeText b p = (t, r, f) := ⟨_, _, _, rfl⟩
    have hT3 := takeText_any _ b p w1 HRb.out hlb
    rw [ht] at hT3
    have HT3 := Lib.hid hT3
    have HT4 := Lib.hid (fun (wx : World) (h : Aft w1 wx) => by
      have h4 := refTakeText_any _ b p wx (HRb.out.grow h) hlb
      rw [ht] at h4
      exact h4)
    obtain ⟨hm1, hm2⟩ := tmod3000 m
    obtain ⟨l, s, g, hl⟩ : ∃ l s g, texts b p (m.tmod 3000) = (l, s, g) := ⟨_, _, _, rfl⟩
    have HT5 := Lib.hid (fun (wx : World) (h : Aft w1 wx) => by
      have h5 := texts_any _ b p (m.tmod 3000) wx (HRb.out.grow h) hlb (by omega)
      rw [hl] at h5
      exact h5)
    have HT6 := Lib.hid (fun (wx : World) (h : Aft w1 wx) => by
      have h5 := refTexts_any _ b p (m.tmod 3000) wx (HRb.out.grow h) hlb (by omega)
      rw [hl] at h5
      exact h5)
    have HLen := Lib.hid (show l.length ≤ 1099511627776 by have := texts_len b p (m.tmod 3000); rw [hl] at this; simp only at this; omega)
    clear hlb hn hT1 hT2 ht hT3 hl
    go_wp2_with fail
    refine HT1.out.mono ?_
    rintro e' wx ⟨rfl, rfl⟩
    go_wp2_with fail
    refine HT2.out.mono ?_
    rintro e' w1 ⟨rfl, rfl⟩
    go_wp2_with fail
    refine HT3.out.mono ?_
    rintro e' w2 ⟨a2, c2, rfl, ho2, hb2⟩
    have HA2 := Lib.hid (show Aft w1 w2 from hb2)
    have HR2 := Lib.hid (Rd.of_own ho2)
    clear ho2 hb2
    go_wp2_with fail
    refine (HT4.out w2 HA2.out).mono ?_
    rintro e' w3 ⟨a3, c3, rfl, ho3, hb3⟩
    have HA23 := Lib.hid (show Aft w2 w3 from hb3)
    have HA3 := Lib.hid (Aft.trans HA2.out HA23.out)
    have HR3 := Lib.hid (Rd.of_own ho3)
    clear ho3 hb3
    go_wp2_with fail
    refine (HT5.out w3 HA3.out).mono ?_
    rintro e' w4 ⟨a4, c4, rfl, ha4, hb4⟩
    have HA34 := Lib.hid (show Aft w3 w4 from hb4)
    have HA4 := Lib.hid (Aft.trans HA3.out HA34.out)
    have HR4 := Lib.hid ha4
    clear ha4 hb4
    go_wp2_with fail
    refine (HT6.out w4 HA4.out).mono ?_
    rintro e' w5 ⟨a5, c5, rfl, ha5, hb5⟩
    have HA45 := Lib.hid (show Aft w4 w5 from hb5)
    have HA5 := Lib.hid (Aft.trans HA4.out HA45.out)
    have HR5 := Lib.hid ha5
    clear ha5 hb5
    go_wp2_with fail
    refine (same_any _ _ t t w5 (HR2.out.grow (Aft.trans HA23.out (Aft.trans HA34.out HA45.out))) (HR3.out.grow (Aft.trans HA34.out HA45.out))).mono ?_
    rintro e' w6 ⟨rfl, rfl⟩
    simp only [decide_true]
    go_wp2_with fail
    refine (sameAll_any _ _ l l _ (HR4.out.below HA45.out) HR5.out HLen.out).mono ?_
    rintro e' w7 ⟨rfl, hb7⟩
    simp only [decide_true]
    have HA57 := Lib.hid hb7
    clear hb7
    go_wp2_with fail
    refine (end_any _ _ _ _ _).mono ?_
    rintro e' w8 ⟨rfl, rfl⟩
    go_wp2_with fail
    refine (refEnd_any _ _ _ _ _).mono ?_
    rintro e' w9 ⟨rfl, rfl⟩
    go_wp2_with fail
    go_ret
    exact ⟨by simp, Aft.trans HB1.out (Aft.trans HA5.out HA57.out)⟩
end Go.Proofs.YtifehfcgmodmaaaDoor
