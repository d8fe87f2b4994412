/- coterielaw01.live: the chapter's examples hold. -/
import Derived.Test.YtifehfcgmodmaaaDoorWireText
import Derived.Test.YtifehfcgmodmaaaDoorSame
namespace Go.Proofs.YtifehfcgmodmaaaDoor
open Go Go.RowKit
theorem num300 : numErr 2 [300] = 0 ∧ numB [] 2 [300] = [1, 44] := by decide
theorem text78 : textErr [[7, 8]] = 0 ∧ textB [] [[7, 8]] = [0, 2, 7, 8] := by decide
set_option maxRecDepth 100000 in
set_option maxHeartbeats 1000000 in
theorem live1_any (w : World) : Calls Tryd.prog 43 #[] w fun e w' => e = .returned (.bool true) ∧ Below w.heap.size w w' := by
  have h0 : Aft w (w.alloc (.cells #[.int .u64 300] 35)) := Aft.alloc _ _
  have hn : Rd (w.alloc (.cells #[.int .u64 300] 35)) (.slice (some ⟨w.heap.size, 0, none⟩) 1 1) (nv [300]) := Rd.lit w #[.int .u64 300] 35 1 rfl (by decide)
  have HN := Lib.hid (num_any (.slice none 0 0) (.slice (some ⟨w.heap.size, 0, none⟩) 1 1) [] 2 [300] _ (Rd.nil _) hn (by simp) (by simp) (by simp))
  have H0 := Lib.hid h0
  clear h0 hn
  go_enter Tryd.func43, Tryd.ntmps43
  go_wp2_with fail
  refine HN.out.mono ?_
  rintro e w1 ⟨a1, c1, rfl, ho1, hb1⟩
  rw [num300.1, num300.2] at *
  have HB1 := Lib.hid (show Aft w w1 from Aft.trans H0.out hb1)
  have HR1 := Lib.hid (Rd.of_own ho1)
  have hl7 : Rd (w1.alloc (.cells #[.int .u8 7, .int .u8 8] 5)) (.slice (some ⟨w1.heap.size, 0, none⟩) 2 2) (bv [7, 8]) := Rd.lit w1 #[.int .u8 7, .int .u8 8] 5 2 rfl (by decide)
  have hall := RdAll.one (w1.alloc (.cells #[.int .u8 7, .int .u8 8] 5)) _ [7, 8] 25 hl7
  rw [World.size_alloc] at hall
  have HT := Lib.hid (text_any (.slice none 0 0) _ [] [[7, 8]] _ (Rd.nil _) hall (by simp) (by simp))
  have HB2 := Lib.hid (show Aft w1 _ from Aft.trans (Aft.alloc w1 (.cells #[.int .u8 7, .int .u8 8] 5)) (Aft.alloc _ (.cells #[.slice (some ⟨w1.heap.size, 0, none⟩) 2 2] 25)))
  clear ho1 hb1 hl7 hall
  go_wp2_with fail
  refine HT.out.mono ?_
  rintro e w2 ⟨a2, c2, rfl, ho2, hb2⟩
  rw [text78.1, text78.2] at *
  have HA2 := Lib.hid (show Aft w1 w2 from Aft.trans HB2.out hb2)
  have HR2 := Lib.hid (Rd.of_own ho2)
  have HL := Lib.hid (show Rd (w2.alloc (.cells #[.int .u8 1, .int .u8 44] 5)) (.slice (some ⟨w2.heap.size, 0, none⟩) 2 2) (bv [1, 44]) from Rd.lit w2 #[.int .u8 1, .int .u8 44] 5 2 rfl (by decide))
  have HA3 := Lib.hid (show Aft w2 _ from Aft.alloc w2 (.cells #[.int .u8 1, .int .u8 44] 5))
  clear ho2 hb2
  go_wp2_with fail
  refine (same_any _ _ [1, 44] [1, 44] _ (HR1.out.grow (Aft.trans HA2.out HA3.out)) HL.out).mono ?_
  rintro e w3 ⟨rfl, rfl⟩
  simp only [decide_true]
  have HL2 := Lib.hid (show Rd ((w2.alloc (.cells #[.int .u8 1, .int .u8 44] 5)).alloc (.cells #[.int .u8 0, .int .u8 2, .int .u8 7, .int .u8 8] 5)) (.slice (some ⟨w2.heap.size + 1, 0, none⟩) 4 4) (bv [0, 2, 7, 8]) from by
    have h := Rd.lit (w2.alloc (.cells #[.int .u8 1, .int .u8 44] 5)) #[.int .u8 0, .int .u8 2, .int .u8 7, .int .u8 8] 5 4 rfl (by decide)
    rw [World.size_alloc] at h
    exact h)
  have HA4 := Lib.hid (show Aft w2 ((w2.alloc (.cells #[.int .u8 1, .int .u8 44] 5)).alloc (.cells #[.int .u8 0, .int .u8 2, .int .u8 7, .int .u8 8] 5)) from Aft.trans HA3.out (Aft.alloc _ _))
  go_wp2_with fail
  refine (same_any _ _ [0, 2, 7, 8] [0, 2, 7, 8] _ (HR2.out.grow HA4.out) HL2.out).mono ?_
  rintro e w4 ⟨rfl, rfl⟩
  go_wp2_with fail
  go_ret
  exact ⟨by simp, Aft.trans HB1.out (Aft.trans HA2.out HA4.out)⟩
end Go.Proofs.YtifehfcgmodmaaaDoor
