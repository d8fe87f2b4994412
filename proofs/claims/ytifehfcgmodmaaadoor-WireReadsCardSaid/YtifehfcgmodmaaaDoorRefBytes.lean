/- coterieref01.Bytes: a number's bytes. -/
import Derived.Test.YtifehfcgmodmaaaDoorExpand
namespace Go.Proofs.YtifehfcgmodmaaaDoor
open Go Go.RowKit
/-- The bytes of a number, of a width, the highest first. -/
def beL : Nat → Nat → List (BitVec 8)
  | 0, _ => []
  | i + 1, n => BitVec.ofNat 8 (n / 256 ^ i) :: beL i n
theorem beL_length : ∀ i n, (beL i n).length = i
  | 0, _ => rfl
  | i + 1, n => by rw [beL, List.length_cons, beL_length i n]
theorem bn_mod (x : Nat) : ((x : Nat) : Int) % 256 = bn (BitVec.ofNat 8 x) := by
  unfold bn
  rw [BitVec.toNat_ofNat]
  omega
set_option maxRecDepth 100000 in
set_option maxHeartbeats 1000000 in
theorem refBytes_any0 (width n : Nat) (w : World) (hw : width ≤ 1000) (hn : n < 18446744073709551616) :
    Calls Tryd.prog 69 #[.int .i64 (width : Int), .int .u64 (n : Int)] w (Returns fun v' w' => w'.ownsRow w.heap.size 5 1 v' (bv (beL width n)).length (bv (beL width n)) ∧ Below w.heap.size w w') := by
  go_enter Tryd.func69, Tryd.ntmps69
  go_wp2_with fail
  go_loopw [1, 5, 7] (fun v1 v5 v7 wr => ∃ i : Nat, i ≤ width ∧ v7 = .int .i64 i ∧ v1 = .int .u64 ((n / 256 ^ i : Nat) : Int) ∧ wr.ownsRow w.heap.size 5 1 v5 (bv (beL i n)).length (bv (beL i n)) ∧ Aft w wr) (fun _ _ v _ => width - (intOf v).toNat)
  case atStart => exact ⟨0, by omega, rfl, by simp, World.ownsRow_nil _ _ _ _, Aft.refl _⟩
  case round =>
    obtain ⟨i, hi, rfl, rfl, hown, haft⟩ := hrel
    have HO := Lib.hid hown
    have HF := Lib.hid haft
    have hL := beL_length i n
    have HS : Hid (beL (i + 1) n = BitVec.ofNat 8 (n / 256 ^ i) :: beL i n) := rfl
    have hd : n / 256 ^ (i + 1) = n / 256 ^ i / 256 := by rw [Nat.pow_succ, Nat.div_div_eq_div_mul]
    have HD := Lib.hid hd
    have hx : n / 256 ^ i < 18446744073709551616 := Nat.lt_of_le_of_lt (Nat.div_le_self _ _) hn
    clear hown haft hd
    generalize n / 256 ^ i = x at *
    generalize hl : beL i n = l at *
    have HLq := Lib.hid hl
    clear hl
    have HL := Lib.hid hL
    clear hL
    by_cases hlt : i < width
    · have hlt' : (i : Int) < (width : Int) := by omega
      have hbm := bn_mod x
      obtain ⟨al, nl, cl, rfl⟩ : ∃ a n c, u5 = .slice a n c := by obtain ⟨a, c, h⟩ := own_shape HO.out; exact ⟨a, _, c, h⟩
      have HR := Lib.hid (Rd.of_own HO.out)
      have HOw := Lib.hid (World.ownsRow_lit (base := w.heap.size) (e := 5) (size := 1) wr #[.int .u8 (bn (BitVec.ofNat 8 x))] 1 (Below.size HF.out) (by decide) rfl)
      have HRa := Lib.hid (HR.out.grow (Aft.alloc wr (.cells #[.int .u8 (bn (BitVec.ofNat 8 x))] 5)))
      go_wp2_with ((at_builtin; refine wpList_append_rd rfl _ _ 25 rfl w.heap.size 5 (.int .u8 0) 1 Tryd.underlying25 info_byte rfl (.slice (some ⟨wr.heap.size, 0, none⟩) 1 1) (.slice al nl cl) [.int .u8 (bn (BitVec.ofNat 8 x))] (bv l) rfl rfl HOw.out HRa.out (bv_one _) (by have := HL.out; simp [bv_length]; omega) (by have := HL.out; simp [bv_length]; omega) (by have := Below.size HF.out; rw [World.size_alloc]; omega) ?_; intro v3 w3 k1 k2 k3; have HO3 := Lib.hid (show w3.ownsRow w.heap.size 5 1 v3 (bv (beL (i + 1) n)).length (bv (beL (i + 1) n)) by rw [HS.out]; exact k1); have HF3 := Lib.hid (show Aft w w3 from (show Below w.heap.size w (wr.alloc (.cells #[.int .u8 (bn (BitVec.ofNat 8 x))] 5)) from Aft.trans HF.out (Aft.alloc _ _)).grown k2 (by rw [World.size_alloc]; have := Below.size HF.out; omega) (fun g hg => by simp [Value.ownBlock] at hg; have := Below.size HF.out; omega)); clear k1 k2 k3))
      go_roundw
      case rel => exact ⟨i + 1, by omega, by go_num, by rw [HD.out]; rfl, HO3.out, HF3.out⟩
      case measure => simp [intOf]; omega
    · obtain rfl : i = width := by omega
      have hlt' : ¬ ((i : Nat) : Int) < (i : Nat) := by omega
      go_wp2_with fail
      go_ret
      exact Returns.mk ⟨by rw [HLq.out]; exact HO.out, HF.out⟩
theorem refBytes_any (width n : Nat) (w : World) (hw : width ≤ 1000) (hn : n < 18446744073709551616) :
    Calls Tryd.prog 69 #[.int .i64 (width : Int), .int .u64 (n : Int)] w (RetSl (bv (beL width n)).length fun v' w' => w'.ownsRow w.heap.size 5 1 v' (bv (beL width n)).length (bv (beL width n)) ∧ Below w.heap.size w w') :=
  (refBytes_any0 width n w hw hn).mono fun _ _ h => RetSl.of_own h fun _ _ q => q.1
end Go.Proofs.YtifehfcgmodmaaaDoor
