/- coterieref02.Padded: bytes, padded. -/
import Derived.Test.YtifehfcgmodmaaaDoorRefBytes
namespace Go.Proofs.YtifehfcgmodmaaaDoor
open Go Go.RowKit
/-- How many bytes 0 stand behind the bit. -/
def zc (L : Nat) : Nat := (119 - L % 64) % 64
def padB (b : List (BitVec 8)) (j : Nat) : List (BitVec 8) := b ++ 128 :: List.replicate j 0
theorem padB_length (b : List (BitVec 8)) (j : Nat) : (padB b j).length = b.length + 1 + j := by simp [padB]; omega
theorem padB_succ (b : List (BitVec 8)) (j : Nat) : padB b (j + 1) = padB b j ++ [0] := by
  unfold padB
  rw [List.replicate_succ', List.append_assoc, List.cons_append]
theorem bv_one8 (x : BitVec 8) : ∀ u ∈ [Value.int .u8 (bn x)], u.oneCell' = true := by intro u hu; simp at hu; subst hu; rfl
set_option maxRecDepth 100000 in
set_option maxHeartbeats 1000000 in
theorem padded_any0 (v : Value) (b : List (BitVec 8)) (w : World) (hb : Rd w v (bv b)) (hlen : b.length ≤ 1099511627776) :
    Calls Tryd.prog 62 #[v] w (Returns fun v' w' => w'.ownsRow w.heap.size 5 1 v' (bv (padB b (zc b.length) ++ beL 8 (8 * b.length))).length (bv (padB b (zc b.length) ++ beL 8 (8 * b.length))) ∧ Below w.heap.size w w') := by
  have HB := Lib.hid hb
  have HL := Lib.hid hlen
  obtain ⟨ao, co, rfl, -, -, -, -⟩ := hb
  clear hlen
  go_enter Tryd.func62, Tryd.ntmps62
  go_wp2_with fail
  refine (copy_any _ b w HB.out (by have := HL.out; omega)).mono ?_
  rintro e w1 ⟨a1, c1, rfl, ho1, hb1⟩
  have HO1 := Lib.hid (ho1.alloc (.cells #[.int .u8 (bn 128)] 5))
  have HR1 := Lib.hid (Rd.of_own (World.ownsRow_lit (base := w1.heap.size) (e := 5) (size := 1) w1 #[.int .u8 (bn 128)] 1 (Nat.le_refl _) (by decide) rfl))
  have HA1 := Lib.hid (show Aft w w1 from hb1)
  have h128 : (128 : Int) = bn 128 := by decide
  have h0b : (0 : Int) = bn 0 := by decide
  have H0 := Lib.hid h0b
  clear ho1 hb1 h0b h128
  go_wp2_with ((at_builtin; refine wpList_append_rd rfl _ _ 25 rfl w.heap.size 5 (.int .u8 0) 1 Tryd.underlying25 info_byte rfl (.slice a1 (bv b).length c1) (.slice (some ⟨w1.heap.size, 0, none⟩) 1 1) (bv b) [.int .u8 (bn 128)] rfl rfl HO1.out HR1.out (bv_one8 128) (by have := HL.out; simp [bv_length]; omega) (by have := HL.out; simp [bv_length]; omega) (by have := Below.size HA1.out; rw [World.size_alloc]; omega) ?_; intro v3 w3 k1 k2 k3; have HO3 := Lib.hid (show w3.ownsRow w.heap.size 5 1 v3 (bv (padB b 0)).length (bv (padB b 0)) by rw [padB, bv_append]; exact k1); have HA3 := Lib.hid (show Aft w w3 from (show Below w.heap.size w (w1.alloc (.cells #[.int .u8 (bn 128)] 5)) from Aft.trans HA1.out (Aft.alloc _ _)).grown k2 (by rw [World.size_alloc]; have := Below.size HA1.out; omega) (fun g hg => (own_lt HO1.out hg).1)); clear k1 k2 k3))
  go_loopw [3] (fun v3 wr => ∃ j : Nat, j ≤ zc b.length ∧ wr.ownsRow w.heap.size 5 1 v3 (bv (padB b j)).length (bv (padB b j)) ∧ Aft w wr) (fun v _ => b.length + 1 + zc b.length - lenV v)
  case atStart => exact ⟨0, by omega, HO3.out, HA3.out⟩
  case round =>
    obtain ⟨j, hj, hown, haft⟩ := hrel
    have HO := Lib.hid hown
    have HF := Lib.hid haft
    have HPl := Lib.hid (show (bv (padB b j)).length = b.length + 1 + j by rw [bv_length, padB_length])
    have HS := Lib.hid (padB_succ b j)
    obtain ⟨al, cl, rfl⟩ := own_shape hown
    clear hown haft
    by_cases hlt : j < zc b.length
    · have hne : ¬ (((bv (padB b j)).length : Nat) : Int) % 64 = 56 := by rw [HPl.out]; unfold zc at hlt; omega
      have HOw := Lib.hid (HO.out.alloc (.cells #[.int .u8 0] 5))
      have HRw := Lib.hid (Rd.of_own (World.ownsRow_lit (base := wr.heap.size) (e := 5) (size := 1) wr #[.int .u8 0] 1 (Nat.le_refl _) (by decide) rfl))
      have HZc := Lib.hid (show zc b.length < 64 by unfold zc; omega)
      go_wp2_with ((at_builtin; refine wpList_append_rd rfl _ _ 25 rfl w.heap.size 5 (.int .u8 0) 1 Tryd.underlying25 info_byte rfl (.slice al (bv (padB b j)).length cl) (.slice (some ⟨wr.heap.size, 0, none⟩) 1 1) (bv (padB b j)) [.int .u8 0] rfl rfl HOw.out HRw.out (bv_one8 0) (by have := HL.out; have := HPl.out; have := HZc.out; simp only [List.length_cons, List.length_nil]; omega) (by have := HL.out; have := HPl.out; have := HZc.out; simp only [List.length_cons, List.length_nil]; omega) (by have := Below.size HF.out; rw [World.size_alloc]; omega) ?_; intro v4 w4 k1 k2 k3; have HO4 := Lib.hid (show w4.ownsRow w.heap.size 5 1 v4 (bv (padB b (j + 1))).length (bv (padB b (j + 1))) by rw [HS.out, bv_append]; exact k1); have HA4 := Lib.hid (show Aft w w4 from (show Below w.heap.size w (wr.alloc (.cells #[.int .u8 0] 5)) from Aft.trans HF.out (Aft.alloc _ _)).grown k2 (by rw [World.size_alloc]; have := Below.size HF.out; omega) (fun g hg => (own_lt HOw.out hg).1)); clear k1 k2 k3))
      go_roundw
      case rel => exact ⟨j + 1, by omega, HO4.out, HA4.out⟩
      case measure =>
        have h4 := HO4.out
        obtain ⟨a4, c4, rfl⟩ := own_shape h4
        have := padB_length b (j + 1)
        have := HPl.out
        simp only [lenV, bv_length] at *
        omega
    · obtain rfl : j = zc b.length := by omega
      have heq : (((bv (padB b (zc b.length))).length : Nat) : Int) % 64 = 56 := by rw [HPl.out]; unfold zc; omega
      have HZc := Lib.hid (show zc b.length < 64 by unfold zc; omega)
      have hby := refBytes_any 8 (8 * b.length) wr (by omega) (by have := HL.out; omega)
      rw [show ((8 * b.length : Nat) : Int) = 8 * (b.length : Int) by omega] at hby
      have HBy := Lib.hid hby
      have hmul : (8 : Int) * (((bv b).length : Nat) : Int) = ((8 * b.length : Nat) : Int) := by rw [bv_length]; omega
      have hbl : (bv b).length ≤ 1099511627776 := by rw [bv_length]; exact HL.out
      clear hby
      go_wp2_with fail
      refine HBy.out.mono ?_
      rintro e w2 ⟨a2, c2, rfl, ho2, hb2⟩
      have HO2 := Lib.hid (ownsRow_below HO.out (w' := w2) fun g hg => Below.block hb2 g (own_lt HO.out hg).2)
      have HR2 := Lib.hid (Rd.of_own ho2)
      have HA2 := Lib.hid (show Aft w w2 from Aft.trans HF.out hb2)
      have HB8 := Lib.hid (show (bv (beL 8 (8 * b.length))).length = 8 by rw [bv_length, beL_length])
      clear ho2 hb2
      go_wp2_with ((at_builtin; refine wpList_append_rd rfl _ _ 25 rfl w.heap.size 5 (.int .u8 0) 1 Tryd.underlying25 info_byte rfl (.slice al (bv (padB b (zc b.length))).length cl) (.slice a2 (bv (beL 8 (8 * b.length))).length c2) (bv (padB b (zc b.length))) (bv (beL 8 (8 * b.length))) rfl rfl HO2.out HR2.out (bv_one _) (by have := HL.out; have := HPl.out; have := HZc.out; have := HB8.out; omega) (by have := HL.out; have := HPl.out; have := HZc.out; have := HB8.out; omega) (Below.size HA2.out) ?_; intro v4 w4 k1 k2 k3; have HO4 := Lib.hid (show w4.ownsRow w.heap.size 5 1 v4 (bv (padB b (zc b.length) ++ beL 8 (8 * b.length))).length (bv (padB b (zc b.length) ++ beL 8 (8 * b.length))) by rw [bv_append]; exact k1); have HA4 := Lib.hid (show Aft w w4 from (show Below w.heap.size w w2 from HA2.out).grown k2 (Below.size HA2.out) (fun g hg => (own_lt HO2.out hg).1)); clear k1 k2 k3))
      go_ret
      exact Returns.mk ⟨HO4.out, HA4.out⟩
theorem padded_any (v : Value) (b : List (BitVec 8)) (w : World) (hb : Rd w v (bv b)) (hlen : b.length ≤ 1099511627776) :
    Calls Tryd.prog 62 #[v] w (RetSl (bv (padB b (zc b.length) ++ beL 8 (8 * b.length))).length fun v' w' => w'.ownsRow w.heap.size 5 1 v' (bv (padB b (zc b.length) ++ beL 8 (8 * b.length))).length (bv (padB b (zc b.length) ++ beL 8 (8 * b.length))) ∧ Below w.heap.size w w') :=
  (padded_any0 v b w hb hlen).mono fun _ _ h => RetSl.of_own h fun _ _ q => q.1
end Go.Proofs.YtifehfcgmodmaaaDoor
