import Derived.Test.YtdbhlajajdlmfaaDoorBA
import Derived.Lib.Tables
import Derived.Lib.BitFns
import Derived.Lib.ItoaNum
import Derived.Shelf.Bytes.WriteAny
import Derived.Shelf.Bytes.Bytes
import Derived.Laws.Bits64
import Derived.Lib.ConvBytes
import Derived.Lib.AtoiErrMem
import Derived.Lib.BufferMore
import Derived.Deep.MidRow
import Derived.Deep.Slices
/- coterieref01.Bytes: a number's bytes. -/
namespace Go.Proofs.YtdbhlajajdlmfaaDoor
open Go Go.RowKit
/-- The bytes of a number, of a width, the highest first. -/
def beL : Nat → Nat → List (BitVec 8)
  | 0, _ => []
  | i + 1, n => BitVec.ofNat 8 (n / 256 ^ i) :: beL i n
theorem beL_length : ∀ i n, (beL i n).length = i
  | 0, _ => rfl
  | i + 1, n => by rw [beL, List.length_cons, beL_length i n]
theorem bn_mod (x : Nat) : ((x : Nat) : Int) % 256 = bn (BitVec.ofNat 8 x) := by
  unfold bn
  rw [BitVec.toNat_ofNat]
  omega
set_option maxRecDepth 100000 in
set_option maxHeartbeats 1000000 in
theorem refBytes_any0 (width n : Nat) (w : World) (hw : width ≤ 1000) (hn : n < 18446744073709551616) :
    Calls Tryd.prog 30 #[.int .i64 (width : Int), .int .u64 (n : Int)] w (Returns fun v' w' => w'.ownsRow w.heap.size 5 1 v' (bv (beL width n)).length (bv (beL width n)) ∧ Below w.heap.size w w') := by
  go_enter Tryd.func30, Tryd.ntmps30
  go_wp2_with fail
  go_loopw [1, 5, 7] (fun v1 v5 v7 wr => ∃ i : Nat, i ≤ width ∧ v7 = .int .i64 i ∧ v1 = .int .u64 ((n / 256 ^ i : Nat) : Int) ∧ wr.ownsRow w.heap.size 5 1 v5 (bv (beL i n)).length (bv (beL i n)) ∧ Aft w wr) (fun _ _ v _ => width - (intOf v).toNat)
  case atStart => exact ⟨0, by omega, rfl, by simp, World.ownsRow_nil _ _ _ _, Aft.refl _⟩
  case round =>
    obtain ⟨i, hi, rfl, rfl, hown, haft⟩ := hrel
    have HO := Lib.hid hown
    have HF := Lib.hid haft
    have hL := beL_length i n
    have HS : Hid (beL (i + 1) n = BitVec.ofNat 8 (n / 256 ^ i) :: beL i n) := rfl
    have hd : n / 256 ^ (i + 1) = n / 256 ^ i / 256 := by rw [Nat.pow_succ, Nat.div_div_eq_div_mul]
    have HD := Lib.hid hd
    have hx : n / 256 ^ i < 18446744073709551616 := Nat.lt_of_le_of_lt (Nat.div_le_self _ _) hn
    clear hown haft hd
    generalize n / 256 ^ i = x at *
    generalize hl : beL i n = l at *
    have HLq := Lib.hid hl
    clear hl
    have HL := Lib.hid hL
    clear hL
    by_cases hlt : i < width
    · have hlt' : (i : Int) < (width : Int) := by omega
      have hbm := bn_mod x
      obtain ⟨al, nl, cl, rfl⟩ : ∃ a n c, u5 = .slice a n c := by obtain ⟨a, c, h⟩ := own_shape HO.out; exact ⟨a, _, c, h⟩
      have HR := Lib.hid (Rd.of_own HO.out)
      have HOw := Lib.hid (World.ownsRow_lit (base := w.heap.size) (e := 5) (size := 1) wr #[.int .u8 (bn (BitVec.ofNat 8 x))] 1 (Below.size HF.out) (by decide) rfl)
      have HRa := Lib.hid (HR.out.grow (Aft.alloc wr (.cells #[.int .u8 (bn (BitVec.ofNat 8 x))] 5)))
      go_wp2_with ((at_builtin; refine wpList_append_rd rfl _ _ 44 rfl w.heap.size 5 (.int .u8 0) 1 Tryd.underlying44 info_byte rfl (.slice (some ⟨wr.heap.size, 0, none⟩) 1 1) (.slice al nl cl) [.int .u8 (bn (BitVec.ofNat 8 x))] (bv l) rfl rfl HOw.out HRa.out (bv_one _) (by have := HL.out; simp [bv_length]; omega) (by have := HL.out; simp [bv_length]; omega) (by have := Below.size HF.out; rw [World.size_alloc]; omega) ?_; intro v3 w3 k1 k2 k3; have HO3 := Lib.hid (show w3.ownsRow w.heap.size 5 1 v3 (bv (beL (i + 1) n)).length (bv (beL (i + 1) n)) by rw [HS.out]; exact k1); have HF3 := Lib.hid (show Aft w w3 from (show Below w.heap.size w (wr.alloc (.cells #[.int .u8 (bn (BitVec.ofNat 8 x))] 5)) from Aft.trans HF.out (Aft.alloc _ _)).grown k2 (by rw [World.size_alloc]; have := Below.size HF.out; omega) (fun g hg => by simp [Value.ownBlock] at hg; have := Below.size HF.out; omega)); clear k1 k2 k3))
      go_roundw
      case rel => exact ⟨i + 1, by omega, by go_num, by rw [HD.out]; rfl, HO3.out, HF3.out⟩
      case measure => simp [intOf]; omega
    · obtain rfl : i = width := by omega
      have hlt' : ¬ ((i : Nat) : Int) < (i : Nat) := by omega
      go_wp2_with fail
      go_ret
      exact Returns.mk ⟨by rw [HLq.out]; exact HO.out, HF.out⟩
theorem refBytes_any (width n : Nat) (w : World) (hw : width ≤ 1000) (hn : n < 18446744073709551616) :
    Calls Tryd.prog 30 #[.int .i64 (width : Int), .int .u64 (n : Int)] w (RetSl (bv (beL width n)).length fun v' w' => w'.ownsRow w.heap.size 5 1 v' (bv (beL width n)).length (bv (beL width n)) ∧ Below w.heap.size w w') :=
  (refBytes_any0 width n w hw hn).mono fun _ _ h => RetSl.of_own h fun _ _ q => q.1
end Go.Proofs.YtdbhlajajdlmfaaDoor
/- coterieref02.Padded: bytes, padded. -/
namespace Go.Proofs.YtdbhlajajdlmfaaDoor
open Go Go.RowKit
/-- How many bytes 0 stand behind the bit. -/
def zc (L : Nat) : Nat := (119 - L % 64) % 64
def padB (b : List (BitVec 8)) (j : Nat) : List (BitVec 8) := b ++ 128 :: List.replicate j 0
theorem padB_length (b : List (BitVec 8)) (j : Nat) : (padB b j).length = b.length + 1 + j := by simp [padB]; omega
theorem padB_succ (b : List (BitVec 8)) (j : Nat) : padB b (j + 1) = padB b j ++ [0] := by
  unfold padB
  rw [List.replicate_succ', List.append_assoc, List.cons_append]
theorem bv_one8 (x : BitVec 8) : ∀ u ∈ [Value.int .u8 (bn x)], u.oneCell' = true := by intro u hu; simp at hu; subst hu; rfl
set_option maxRecDepth 100000 in
set_option maxHeartbeats 1000000 in
theorem padded_any0 (v : Value) (b : List (BitVec 8)) (w : World) (hb : Rd w v (bv b)) (hlen : b.length ≤ 1099511627776) :
    Calls Tryd.prog 74 #[v] w (Returns fun v' w' => w'.ownsRow w.heap.size 5 1 v' (bv (padB b (zc b.length) ++ beL 8 (8 * b.length))).length (bv (padB b (zc b.length) ++ beL 8 (8 * b.length))) ∧ Below w.heap.size w w') := by
  have HB := Lib.hid hb
  have HL := Lib.hid hlen
  obtain ⟨ao, co, rfl, -, -, -, -⟩ := hb
  clear hlen
  go_enter Tryd.func74, Tryd.ntmps74
  go_wp2_with fail
  refine (copy_any _ b w HB.out (by have := HL.out; omega)).mono ?_
  rintro e w1 ⟨a1, c1, rfl, ho1, hb1⟩
  have HO1 := Lib.hid (ho1.alloc (.cells #[.int .u8 (bn 128)] 5))
  have HR1 := Lib.hid (Rd.of_own (World.ownsRow_lit (base := w1.heap.size) (e := 5) (size := 1) w1 #[.int .u8 (bn 128)] 1 (Nat.le_refl _) (by decide) rfl))
  have HA1 := Lib.hid (show Aft w w1 from hb1)
  have h128 : (128 : Int) = bn 128 := by decide
  have h0b : (0 : Int) = bn 0 := by decide
  have H0 := Lib.hid h0b
  clear ho1 hb1 h0b h128
  go_wp2_with ((at_builtin; refine wpList_append_rd rfl _ _ 44 rfl w.heap.size 5 (.int .u8 0) 1 Tryd.underlying44 info_byte rfl (.slice a1 (bv b).length c1) (.slice (some ⟨w1.heap.size, 0, none⟩) 1 1) (bv b) [.int .u8 (bn 128)] rfl rfl HO1.out HR1.out (bv_one8 128) (by have := HL.out; simp [bv_length]; omega) (by have := HL.out; simp [bv_length]; omega) (by have := Below.size HA1.out; rw [World.size_alloc]; omega) ?_; intro v3 w3 k1 k2 k3; have HO3 := Lib.hid (show w3.ownsRow w.heap.size 5 1 v3 (bv (padB b 0)).length (bv (padB b 0)) by rw [padB, bv_append]; exact k1); have HA3 := Lib.hid (show Aft w w3 from (show Below w.heap.size w (w1.alloc (.cells #[.int .u8 (bn 128)] 5)) from Aft.trans HA1.out (Aft.alloc _ _)).grown k2 (by rw [World.size_alloc]; have := Below.size HA1.out; omega) (fun g hg => (own_lt HO1.out hg).1)); clear k1 k2 k3))
  go_loopw [3] (fun v3 wr => ∃ j : Nat, j ≤ zc b.length ∧ wr.ownsRow w.heap.size 5 1 v3 (bv (padB b j)).length (bv (padB b j)) ∧ Aft w wr) (fun v _ => b.length + 1 + zc b.length - lenV v)
  case atStart => exact ⟨0, by omega, HO3.out, HA3.out⟩
  case round =>
    obtain ⟨j, hj, hown, haft⟩ := hrel
    have HO := Lib.hid hown
    have HF := Lib.hid haft
    have HPl := Lib.hid (show (bv (padB b j)).length = b.length + 1 + j by rw [bv_length, padB_length])
    have HS := Lib.hid (padB_succ b j)
    obtain ⟨al, cl, rfl⟩ := own_shape hown
    clear hown haft
    by_cases hlt : j < zc b.length
    · have hne : ¬ (((bv (padB b j)).length : Nat) : Int) % 64 = 56 := by rw [HPl.out]; unfold zc at hlt; omega
      have HOw := Lib.hid (HO.out.alloc (.cells #[.int .u8 0] 5))
      have HRw := Lib.hid (Rd.of_own (World.ownsRow_lit (base := wr.heap.size) (e := 5) (size := 1) wr #[.int .u8 0] 1 (Nat.le_refl _) (by decide) rfl))
      have HZc := Lib.hid (show zc b.length < 64 by unfold zc; omega)
      go_wp2_with ((at_builtin; refine wpList_append_rd rfl _ _ 44 rfl w.heap.size 5 (.int .u8 0) 1 Tryd.underlying44 info_byte rfl (.slice al (bv (padB b j)).length cl) (.slice (some ⟨wr.heap.size, 0, none⟩) 1 1) (bv (padB b j)) [.int .u8 0] rfl rfl HOw.out HRw.out (bv_one8 0) (by have := HL.out; have := HPl.out; have := HZc.out; simp only [List.length_cons, List.length_nil]; omega) (by have := HL.out; have := HPl.out; have := HZc.out; simp only [List.length_cons, List.length_nil]; omega) (by have := Below.size HF.out; rw [World.size_alloc]; omega) ?_; intro v4 w4 k1 k2 k3; have HO4 := Lib.hid (show w4.ownsRow w.heap.size 5 1 v4 (bv (padB b (j + 1))).length (bv (padB b (j + 1))) by rw [HS.out, bv_append]; exact k1); have HA4 := Lib.hid (show Aft w w4 from (show Below w.heap.size w (wr.alloc (.cells #[.int .u8 0] 5)) from Aft.trans HF.out (Aft.alloc _ _)).grown k2 (by rw [World.size_alloc]; have := Below.size HF.out; omega) (fun g hg => (own_lt HOw.out hg).1)); clear k1 k2 k3))
      go_roundw
      case rel => exact ⟨j + 1, by omega, HO4.out, HA4.out⟩
      case measure =>
        have h4 := HO4.out
        obtain ⟨a4, c4, rfl⟩ := own_shape h4
        have := padB_length b (j + 1)
        have := HPl.out
        simp only [lenV, bv_length] at *
        omega
    · obtain rfl : j = zc b.length := by omega
      have heq : (((bv (padB b (zc b.length))).length : Nat) : Int) % 64 = 56 := by rw [HPl.out]; unfold zc; omega
      have HZc := Lib.hid (show zc b.length < 64 by unfold zc; omega)
      have hby := refBytes_any 8 (8 * b.length) wr (by omega) (by have := HL.out; omega)
      rw [show ((8 * b.length : Nat) : Int) = 8 * (b.length : Int) by omega] at hby
      have HBy := Lib.hid hby
      have hmul : (8 : Int) * (((bv b).length : Nat) : Int) = ((8 * b.length : Nat) : Int) := by rw [bv_length]; omega
      have hbl : (bv b).length ≤ 1099511627776 := by rw [bv_length]; exact HL.out
      clear hby
      go_wp2_with fail
      refine HBy.out.mono ?_
      rintro e w2 ⟨a2, c2, rfl, ho2, hb2⟩
      have HO2 := Lib.hid (ownsRow_below HO.out (w' := w2) fun g hg => Below.block hb2 g (own_lt HO.out hg).2)
      have HR2 := Lib.hid (Rd.of_own ho2)
      have HA2 := Lib.hid (show Aft w w2 from Aft.trans HF.out hb2)
      have HB8 := Lib.hid (show (bv (beL 8 (8 * b.length))).length = 8 by rw [bv_length, beL_length])
      clear ho2 hb2
      go_wp2_with ((at_builtin; refine wpList_append_rd rfl _ _ 44 rfl w.heap.size 5 (.int .u8 0) 1 Tryd.underlying44 info_byte rfl (.slice al (bv (padB b (zc b.length))).length cl) (.slice a2 (bv (beL 8 (8 * b.length))).length c2) (bv (padB b (zc b.length))) (bv (beL 8 (8 * b.length))) rfl rfl HO2.out HR2.out (bv_one _) (by have := HL.out; have := HPl.out; have := HZc.out; have := HB8.out; omega) (by have := HL.out; have := HPl.out; have := HZc.out; have := HB8.out; omega) (Below.size HA2.out) ?_; intro v4 w4 k1 k2 k3; have HO4 := Lib.hid (show w4.ownsRow w.heap.size 5 1 v4 (bv (padB b (zc b.length) ++ beL 8 (8 * b.length))).length (bv (padB b (zc b.length) ++ beL 8 (8 * b.length))) by rw [bv_append]; exact k1); have HA4 := Lib.hid (show Aft w w4 from (show Below w.heap.size w w2 from HA2.out).grown k2 (Below.size HA2.out) (fun g hg => (own_lt HO2.out hg).1)); clear k1 k2 k3))
      go_ret
      exact Returns.mk ⟨HO4.out, HA4.out⟩
theorem padded_any (v : Value) (b : List (BitVec 8)) (w : World) (hb : Rd w v (bv b)) (hlen : b.length ≤ 1099511627776) :
    Calls Tryd.prog 74 #[v] w (RetSl (bv (padB b (zc b.length) ++ beL 8 (8 * b.length))).length fun v' w' => w'.ownsRow w.heap.size 5 1 v' (bv (padB b (zc b.length) ++ beL 8 (8 * b.length))).length (bv (padB b (zc b.length) ++ beL 8 (8 * b.length))) ∧ Below w.heap.size w w') :=
  (padded_any0 v b w hb hlen).mono fun _ _ h => RetSl.of_own h fun _ _ q => q.1
end Go.Proofs.YtdbhlajajdlmfaaDoor
/- coterieref02.Bytes: words' bytes; and First. -/
namespace Go.Proofs.YtdbhlajajdlmfaaDoor
open Go Go.RowKit
def kRow (s : St) (m j : Nat) : Value := .int .u8 (bn (if j < m then (keyBytes s).getD j 0 else 0))
theorem wbytes_be (x : BitVec 32) : beL 4 x.toNat = wbytes x := by
  have := x.isLt
  simp only [beL, wbytes, Nat.pow_zero, Nat.div_one, Nat.pow_succ, Nat.one_mul]
  simp only [List.cons.injEq, and_true]
  refine ⟨?_, ?_, ?_, ?_⟩ <;> (apply BitVec.eq_of_toNat_eq; simp [Nat.shiftRight_eq_div_pow])
theorem keyBytes_at (s : St) : ∀ i n, i < 8 → n < 4 → (keyBytes s).getD (4 * i + n) 0 = (wbytes (s.at i)).getD n 0 := by
  intro i n hi hn
  match i, hi with
  | 0, _ | 1, _ | 2, _ | 3, _ | 4, _ | 5, _ | 6, _ | 7, _ => match n, hn with | 0, _ | 1, _ | 2, _ | 3, _ => rfl
theorem kRow_step (s : St) (i n : Nat) (hi : i < 8) (hn : n < 4) : ∀ j, j < 32 → (if j = 4 * i + n then Value.int .u8 (bn ((wbytes (s.at i)).getD n 0)) else kRow s (4 * i + n) j) = kRow s (4 * i + (n + 1)) j := by
  intro j _
  unfold kRow
  by_cases h : j = 4 * i + n
  · subst h; rw [if_pos rfl, if_pos (by omega), keyBytes_at s i n hi hn]
  · rw [if_neg h]
    by_cases h2 : j < 4 * i + n
    · rw [if_pos h2, if_pos (by omega)]
    · rw [if_neg h2, if_neg (by omega)]
theorem kRow_end {w : World} {g t : Nat} {s : St} (h : w.rowIs g t 32 (kRow s 32)) : w.heap[g]? = some (.cells (bv (keyBytes s)).toArray t (0, 0)) := by
  obtain ⟨cs, h1, h2, h3⟩ := h
  have hl : (keyBytes s).length = 32 := rfl
  rw [h1]
  congr 2
  apply Array.ext_getElem?
  intro i
  by_cases hi : i < 32
  · rw [h3 i hi]
    unfold kRow
    rw [if_pos hi]
    simp [bv, List.getD, List.getElem?_eq_getElem (show i < (keyBytes s).length by omega)]
  · rw [Array.getElem?_eq_none (by omega), Array.getElem?_eq_none (by rw [List.size_toArray, bv_length]; omega)]
theorem key0_at (i : Nat) (h : i < 32) : key0[i]? = some (.int .u8 0) := by
  have e : key0.toList = List.replicate 32 (.int .u8 0) := rfl
  rw [← Array.getElem?_toList, e, List.getElem?_replicate, if_pos h]
theorem kRow_start {w : World} {g t : Nat} (s : St) (h : w.heap[g]? = some (.cells key0 t (0, 0))) : w.rowIs g t 32 (kRow s 0) :=
  ⟨_, h, rfl, fun i hi => by
    unfold kRow
    rw [if_neg (by omega)]
    show key0[i]? = some (.int .u8 0)
    exact key0_at i hi⟩
set_option maxRecDepth 100000 in
set_option maxHeartbeats 2000000 in
theorem refKey_any (s : St) (w : World) :
    Calls Tryd.prog 78 #[.agg (stArr s)] w fun e w' => e = .returned (.agg (bv (keyBytes s)).toArray) ∧ Below w.heap.size w w' := by
  have H0 := Lib.hid (heap_alloc_new w (.cells (stArr s) 96))
  have HX := Lib.hid (fun (w1 : World) (o1 o2 : Obj) => Aft.get (Aft.trans (Aft.alloc w1 o1) (Aft.alloc _ o2)) (w := w1) (g := w.heap.size) (o := .cells (stArr s) 96 (0, 0)))
  go_enter Tryd.func78, Tryd.ntmps78
  go_wp2_with ((refine wpList_load_row rfl 96 (.tmp 1) rfl w.heap.size rfl 96 (stArr s) (0, 0) _ (HX.out _ _ _ H0.out) Tryd.underlying96 rfl (st_info s) ?_))
  obtain ⟨w4, hw4⟩ : ∃ w4 : World, w4 = ((w.alloc (.cells (stArr s) 96)).alloc (.cells key0 30)).alloc (.cells key0 30) := ⟨_, rfl⟩
  rw [show ((w.alloc (.cells (stArr s) 96)).alloc (.cells #[.int .u8 0, .int .u8 0, .int .u8 0, .int .u8 0, .int .u8 0, .int .u8 0, .int .u8 0, .int .u8 0, .int .u8 0, .int .u8 0, .int .u8 0, .int .u8 0, .int .u8 0, .int .u8 0, .int .u8 0, .int .u8 0, .int .u8 0, .int .u8 0, .int .u8 0, .int .u8 0, .int .u8 0, .int .u8 0, .int .u8 0, .int .u8 0, .int .u8 0, .int .u8 0, .int .u8 0, .int .u8 0, .int .u8 0, .int .u8 0, .int .u8 0, .int .u8 0] 30)).alloc (.cells #[.int .u8 0, .int .u8 0, .int .u8 0, .int .u8 0, .int .u8 0, .int .u8 0, .int .u8 0, .int .u8 0, .int .u8 0, .int .u8 0, .int .u8 0, .int .u8 0, .int .u8 0, .int .u8 0, .int .u8 0, .int .u8 0, .int .u8 0, .int .u8 0, .int .u8 0, .int .u8 0, .int .u8 0, .int .u8 0, .int .u8 0, .int .u8 0, .int .u8 0, .int .u8 0, .int .u8 0, .int .u8 0, .int .u8 0, .int .u8 0, .int .u8 0, .int .u8 0] 30) = w4 from hw4.symm]
  have HR4 := Lib.hid (kRow_start s (show w4.heap[w.heap.size + 1 + 1]? = some (.cells key0 30 (0, 0)) by rw [hw4]; have := heap_alloc_new ((w.alloc (.cells (stArr s) 96)).alloc (.cells key0 30)) (.cells key0 30); rwa [World.size_alloc, World.size_alloc] at this))
  have HO4 := Lib.hid (show w4.heap[w.heap.size + 1]? = some (.cells key0 30 (0, 0)) by rw [hw4]; refine Aft.get (Aft.alloc _ _) ?_; have := heap_alloc_new (w.alloc (.cells (stArr s) 96)) (.cells key0 30); rwa [World.size_alloc] at this)
  have HB4 := Lib.hid (show Aft w w4 by rw [hw4]; exact Aft.trans (Aft.alloc _ _) (Aft.trans (Aft.alloc _ _) (Aft.alloc _ _)))
  clear hw4
  go_loopw [9] (fun v9 wr => ∃ i : Nat, i ≤ 8 ∧ v9 = .int .i64 i ∧ wr.rowIs (w.heap.size + 1 + 1) 30 32 (kRow s (4 * i)) ∧ wr.heap[w.heap.size + 1]? = some (.cells key0 30 (0, 0)) ∧ Aft w wr) (fun v _ => 8 - (intOf v).toNat)
  case atStart => exact ⟨0, by omega, rfl, HR4.out, HO4.out, HB4.out⟩
  case round =>
    obtain ⟨i, hi, rfl, hrow, ho, hb⟩ := hrel
    have HRow := Lib.hid hrow
    have HO := Lib.hid ho
    have HB := Lib.hid hb
    clear hrow ho hb
    by_cases hlt : i < 8
    · have hlt' : (i : Int) < 8 := by omega
      have i0 := run_index_cells (P := Tryd.prog) (len := 8) (t := 96) (e := 95) (k := .u32) Tryd.underlying96 Tryd.underlying95 (by kernel_rfl) (i := i) hlt (stArr_at s i hlt)
      have HS := Lib.hid (kRow_step s i)
      have HWb := Lib.hid (wbytes_be (s.at i))
      have hwx : wn (s.at i) = (((s.at i).toNat : Nat) : Int) := rfl
      have hby := refBytes_any 4 (s.at i).toNat wr (by omega) (by have := (s.at i).isLt; omega)
      rw [HWb.out] at hby
      have HBy := Lib.hid hby
      clear hby
      go_wp2_with fail
      refine HBy.out.mono ?_
      rintro e w2 ⟨a2, c2, rfl, ho2, hb2⟩
      have HO2 := Lib.hid (Rd.of_own ho2)
      have HA2 := Lib.hid (show Aft wr w2 from hb2)
      have hOwn := Lib.hid fun g hg => (own_lt ho2 (g := g) hg).1
      clear ho2 hb2
      have hl4 : (bv (wbytes (s.at i))).length = 4 := rfl
      rw [hl4] at HO2 ⊢
      obtain ⟨g2, o2, rfl, -, -⟩ := Rd.some_of HO2.out (by rw [hl4]; decide)
      have HRow2 := Lib.hid (HRow.out.of_block (Below.block HA2.out _ HRow.out.lt))
      have HO22 := Lib.hid (Aft.get HA2.out HO.out)
      have HB2 := Lib.hid (Aft.trans HB.out HA2.out)
      have HRd2 := Lib.hid (show ∀ n, n < 4 → w2.cell? ⟨g2, o2 + n, none⟩ = some (.int .u8 (bn ((wbytes (s.at i)).getD n 0))) from fun n hn => HO2.out.cell_at (show n < (wbytes (s.at i)).length from hn))
      have HG2 := Lib.hid (show Rd w2 (.slice (some ⟨g2, o2, none⟩) 4 c2) (bv (wbytes (s.at i))) from HO2.out)
      have hkey : wr.heap.size ≤ g2 := hOwn.out g2 rfl
      have hkey2 : w.heap.size + 1 + 1 < g2 := by have := HRow.out.lt; omega
      have HKey := Lib.hid hkey2
      clear hkey hkey2 hOwn
      clear HRow HO HB HBy HA2 HO2
      go_wp2_with fail
      go_loopw [17] (fun v17 wx => ∃ n : Nat, n ≤ 4 ∧ v17 = .int .i64 n ∧ wx.rowIs (w.heap.size + 1 + 1) 30 32 (kRow s (4 * i + n)) ∧ wx.heap[w.heap.size + 1]? = some (.cells key0 30 (0, 0)) ∧ Aft w wx ∧ Rd wx (.slice (some ⟨g2, o2, none⟩) 4 c2) (bv (wbytes (s.at i)))) (fun v _ => 4 - (intOf v).toNat)
      case atStart => exact ⟨0, by omega, rfl, HRow2.out, HO22.out, HB2.out, HG2.out⟩
      case round =>
        clear HRow2 HO22 HB2 HG2
        obtain ⟨n, hn, rfl, hrow, ho, hb, hrd⟩ := hrel
        by_cases hlt2 : n < 4
        · have hlt2' : (n : Int) < 4 := by omega
          have hc := hrd.cell_at (show n < (wbytes (s.at i)).length from hlt2)
          have HRow := Lib.hid hrow
          have HO := Lib.hid ho
          have HB := Lib.hid hb
          have HRd := Lib.hid hrd
          have ix : (4 * (i : Int) + (n : Int)).toNat = 4 * i + n := by omega
          have ix1 : 4 * (i : Int) + (n : Int) < 32 := by omega
          have hcj := hrow.cell (i := 4 * i + n) (by omega)
          have hfj := hrow.frozen (4 * i + n)
          clear hrow ho hb hrd
          go_wp2_with fail
          go_roundw
          case rel =>
            exact ⟨n + 1, by omega, by go_num, (World.rowIs.set HRow.out _ _).congr (HS.out n hlt hlt2), (Below.heap_setCell _ _ _ _ (show w.heap.size + 1 ≠ w.heap.size + 1 + 1 by omega)).trans HO.out, aft_set HB.out (show w.heap.size ≤ w.heap.size + 1 + 1 by omega) _, HRd.out.setCell (fun g hg _ => by cases hg; have := HKey.out; simp only; omega) _⟩
          case measure => simp [intOf]; omega
        · obtain rfl : n = 4 := by omega
          have hlt2' : ¬ ((4 : Nat) : Int) < 4 := by omega
          have HRow := Lib.hid hrow
          have HO := Lib.hid ho
          have HB := Lib.hid hb
          clear hrow ho hb hrd
          go_wp2_with fail
          go_roundw
          case rel => exact ⟨i + 1, by omega, by go_num, by rw [show 4 * (i + 1) = 4 * i + 4 by omega]; exact HRow.out, HO.out, HB.out⟩
          case measure => simp [intOf]; omega
    · obtain rfl : i = 8 := by omega
      have hlt' : ¬ ((8 : Nat) : Int) < 8 := by omega
      have HE := Lib.hid (kRow_end HRow.out)
      have hs32 : (Tryd.prog.info? 30).map (·.size) = some (bv (keyBytes s)).toArray.size := by kernel_rfl
      have H32 := Lib.hid hs32
      have H1 := Lib.hid (show (bv (keyBytes s)).toArray.all (·.oneCell') = true by kernel_rfl)
      clear hs32
      go_wp2_with (first
        | (refine wpList_load_row rfl 30 (.tmp 3) rfl (w.heap.size + 1 + 1) rfl 30 (bv (keyBytes s)).toArray (0, 0) _ HE.out Tryd.underlying30 rfl H32.out ?_)
        | (refine wpList_store_rowX rfl 30 (.tmp 2) (.tmp 30) rfl (w.heap.size + 1) (bv (keyBytes s)).toArray rfl rfl 30 key0 HO.out H32.out (by kernel_rfl) H1.out ?_; intro wk q2 q3; have HKk := Lib.hid q2.out; have HBk := Lib.hid (q3 w.heap.size w (by omega) HB.out); clear q2 q3))
      refine bodyPost_ret (results_cell_row rfl _ _ (w.heap.size + 1) 30 (bv (keyBytes s)).toArray (0, 0) _ rfl HKk.out Tryd.underlying30 rfl H32.out) rfl ?_
      exact ⟨rfl, HBk.out⟩
end Go.Proofs.YtdbhlajajdlmfaaDoor
/- coterieref02.First, and coterieref02.Sum: the document's sum of any parts is the digest. -/
namespace Go.Proofs.YtdbhlajajdlmfaaDoor
open Go Go.RowKit
theorem beL_map : ∀ (i n : Nat), i ≤ 8 → beL i n = ((List.range 8).drop (8 - i)).map (beByte n)
  | 0, n, _ => rfl
  | i + 1, n, h => by
    rw [beL, beL_map i n (by omega), List.drop_eq_getElem_cons (i := 8 - (i + 1)) (by rw [List.length_range]; omega), List.map_cons, show 8 - (i + 1) + 1 = 8 - i by omega, List.getElem_range]
    unfold beByte
    rw [show 7 - (8 - (i + 1)) = i by omega, Nat.shiftRight_eq_div_pow, Nat.pow_mul]
theorem pad_tail (r : List (BitVec 8)) (N : Nat) (h : r.length % 64 = N % 64) : padB r (zc r.length) ++ beL 8 (8 * N) = r ++ tailB N 8 := by
  unfold padB tailB zc
  rw [show 63 - (N + 8) % 64 = (119 - r.length % 64) % 64 by omega, beL_map 8 (8 * N) (Nat.le_refl _), Nat.mul_comm 8 N]
  simp [List.append_assoc]
theorem digest_pad (K : Nat → BitVec 32) (d : List (BitVec 8)) : keyBytes (absorb K ((d ++ tailB d.length 8).length / 64) iv (d ++ tailB d.length 8)) = digest K d := by
  unfold digest finKey
  rw [(sha_step K iv d (tailB d.length 8)).1]
  rfl
theorem pad_whole (d : List (BitVec 8)) (N : Nat) (h : d.length % 64 = N % 64) : (d ++ tailB N 8).length % 64 = 0 := by
  rw [List.length_append, tailB_length]; omega
/-- A block of a list of bytes. -/
def blk (b : List (BitVec 8)) (j : Nat) : List (BitVec 8) := (b.drop (64 * j)).take 64
theorem absorb_blk (K : Nat → BitVec 32) (s : St) (b : List (BitVec 8)) (j : Nat) : mixed K (absorb K j s b) (byteAt (blk b j)) = absorb K (j + 1) s b := by
  rw [absorb_succ]
  apply mixed_congr
  intro i hi
  unfold byteAt blk
  simp only [List.getD_eq_getElem?_getD]
  rw [List.getElem?_take_of_lt hi]
theorem blk_length {b : List (BitVec 8)} {j : Nat} (h : 64 * j + 64 ≤ b.length) : (blk b j).length = 64 := by
  unfold blk
  rw [List.length_take, List.length_drop]
  omega
set_option maxRecDepth 100000 in
theorem cut_blk {w : World} {ao : Option Addr} {len cap j : Nat} {b : List (BitVec 8)} (h : Rd w (.slice ao len cap) (bv b)) (hj : 64 * j + 64 ≤ b.length) (l r : Int) (hl : l = ((64 * j : Nat) : Int)) (hr : r = ((64 * j + 64 : Nat) : Int)) :
    ∃ g o, (∀ wx, (Instr.slice 44 (.slice ao len cap) (some (.int .i64 l)) (some (.int .i64 r)) none).run Tryd.prog wx = .ok (.slice (some ⟨g, o, none⟩) 64 (cap - 64 * j)) wx) ∧ Rd w (.slice (some ⟨g, o, none⟩) 64 (cap - 64 * j)) (bv (blk b j)) := by
  subst hl hr
  have hs := h.sl
  rw [bv_length] at hs
  have h1 := (h.from (n := 64 * j) (by rw [bv_length]; omega)).to (n := 64) (by rw [List.length_drop, bv_length]; omega)
  have e : bv (blk b j) = ((bv b).drop (64 * j)).take 64 := by unfold blk; rw [bv_take, bv_drop]
  rw [← e] at h1
  obtain ⟨g, o, hgo, -, -⟩ := Rd.some_of h1 (by rw [bv_length, blk_length hj]; omega)
  rw [hgo] at h1
  refine ⟨g, o, fun wx => ?_, h1⟩
  obtain ⟨i0, hi, hz1, hz2, hz3⟩ := info_parts info_byte
  have hc : Tryd.prog.cellsOf 5 = 1 := by simp [Program.cellsOf, hi, hz2]
  rw [run_slice_lh wx 44 ao len cap Tryd.underlying44 .i64 .i64 ((64 * j : Nat) : Int) ((64 * j + 64 : Nat) : Int) (by omega) (by omega) (by omega)]
  rw [show Tryd.prog.elem 44 = 5 from rfl, run_sizeOf wx hi]
  simp only [Result.andThen, sliced, Int.toNat_natCast]
  rw [hc, Nat.mul_one, hgo, show 64 * j + 64 - 64 * j = 64 by omega]
set_option maxRecDepth 100000 in
theorem first_any (w : World) : Calls Tryd.prog 76 #[] w fun e w' => e = .returned (.agg (stArr iv)) ∧ Below w.heap.size w w' := by
  go_enter Tryd.func76, Tryd.ntmps76
  go_wp2_with fail
  go_returns
  exact ⟨rfl, (Below.refl _ _).alloc (Nat.le_refl _) _⟩
set_option maxRecDepth 100000 in
set_option maxHeartbeats 2000000 in
theorem refSum_any (vp : Value) (ps : List (List (BitVec 8))) (w : World) (hK : TabK K0 0 w) (hp : RdAll w vp ps) (hlen : ps.flatten.length ≤ 1099511627776) :
    Calls Tryd.prog 42 #[vp] w fun e w' => e = .returned (.agg (bv (digest K0 ps.flatten)).toArray) ∧ Below w.heap.size w w' := by
  have HK := Lib.hid hK
  have HP := Lib.hid hp
  have HL := Lib.hid hlen
  obtain ⟨ao, cap, rfl, hcap⟩ := hp.shape
  clear hK hp hcap
  have HZ := Lib.hid (heap_alloc_new w (.cells key0 30))
  go_enter Tryd.func42, Tryd.ntmps42
  go_wp2_with fail
  refine (all_any _ ps _ (HP.out.below (Aft.alloc w (.cells key0 30))) (by have := HL.out; omega)).mono ?_
  rintro e w1 ⟨a1, c1, rfl, ho1, hb1⟩
  have HR1 := Lib.hid (Rd.of_own ho1)
  have HA1 := Lib.hid (show Aft w w1 from Aft.trans (Aft.alloc w (.cells key0 30)) hb1)
  have HZ1 := Lib.hid (Aft.get (show Aft (w.alloc (.cells key0 30)) w1 from hb1) HZ.out)
  generalize hd : ps.flatten = d at *
  have HD := Lib.hid hd
  clear hd ho1 hb1 hlen
  go_wp2_with fail
  refine (padded_any _ d _ HR1.out HL.out).mono ?_
  rintro e w2 ⟨a2, c2, rfl, ho2, hb2⟩
  have hpt := pad_tail d d.length rfl
  rw [hpt] at ho2 ⊢
  have hwh := pad_whole d d.length rfl
  have hdp := digest_pad K0 d
  have hlB : (d ++ tailB d.length 8).length ≤ 1099511627776 + 1000 := by have := HL.out; rw [List.length_append, tailB_length]; omega
  generalize d ++ tailB d.length 8 = b at *
  have HR2 := Lib.hid (Rd.of_own ho2)
  have HA2 := Lib.hid (show Aft w w2 from Aft.trans HA1.out hb2)
  have HZ2 := Lib.hid (Aft.get (show Aft w1 w2 from hb2) HZ1.out)
  have HWh := Lib.hid hwh
  have HDp := Lib.hid hdp
  have HLB := Lib.hid hlB
  clear ho2 hb2 hpt hwh hdp hlB
  go_wp2_with fail
  refine (first_any _).mono ?_
  rintro e w3 ⟨rfl, hb3⟩
  have HR3 := Lib.hid (HR2.out.grow hb3)
  have HA3 := Lib.hid (show Aft w w3 from Aft.trans HA2.out hb3)
  have HZ3 := Lib.hid (Aft.get (show Aft w2 w3 from hb3) HZ2.out)
  have HS3 := Lib.hid (heap_alloc_new w3 (.cells zero8 96))
  clear hb3
  go_wp2_with ((refine wpList_store_rowX rfl 96 (.tmp 4) (.tmp 9) rfl w3.heap.size (stArr iv) rfl rfl 96 zero8 HS3.out (st_info _) (by rw [stArr_size]; rfl) (stArr_one iv) ?_; intro w5 q2 q3; have HV5 := Lib.hid q2.out; have h35 := (show Aft w3 w5 from q3 w3.heap.size w3 (Nat.le_refl _) (Below.alloc (Below.refl _ _) (Nat.le_refl _) _)); have HA5 := Lib.hid (Aft.trans HA3.out h35); have HR5 := Lib.hid (HR3.out.grow h35); have H35 := Lib.hid h35; clear q2 q3 h35))
  have hbl := bv_length b
  rw [hbl]
  go_loopw [5] (fun v5 wr => ∃ j : Nat, 64 * j ≤ b.length ∧ v5 = .int .i64 ((64 * j : Nat) : Int) ∧ wr.heap[w3.heap.size]? = some (.cells (stArr (absorb K0 j iv b)) 96 (0, 0)) ∧ Below w3.heap.size w3 wr) (fun v _ => b.length - (intOf v).toNat)
  case atStart => exact ⟨0, by omega, rfl, HV5.out, H35.out⟩
  case round =>
    obtain ⟨j, hj, rfl, hv, hb⟩ := hrel
    clear hbl
    have HV := Lib.hid hv
    have HB := Lib.hid hb
    have HW := Lib.hid (show Aft w wr from Below.trans HA3.out (Below.mono hb (Below.size HA3.out)))
    clear hv hb HV5 HR5 H35 HS3
    have hLb := HLB.out
    by_cases hlt : 64 * j < b.length
    · have hlt' : ((64 * j : Nat) : Int) < (b.length : Int) := by omega
      have h64 : 64 * j + 64 ≤ b.length := by have := HWh.out; omega
      have hrd := HR3.out.grow HB.out
      rw [bv_length] at hrd
      obtain ⟨gb, ob, hcut, hrb⟩ := cut_blk hrd h64 (64 * (j : Int)) (64 * (j : Int) + 64) (by omega) (by omega)
      have HRb := Lib.hid hrb
      have HCut := Lib.hid hcut
      have HAb := Lib.hid (absorb_blk K0 iv b j)
      have HBl := Lib.hid (blk_length h64)
      clear hrd hrb hcut
      generalize blk b j = bj at *
      generalize hs1 : absorb K0 (j + 1) iv b = s1 at *
      have HS1 := Lib.hid hs1
      clear hs1
      generalize absorb K0 j iv b = s0 at *
      go_wp2_with fail
      refine wp_region_lexF (fun i => ([0, 0, 0, 0, 0, 0, 2] : List Nat).getD i 0) 7 (by kernel_rfl) (by kernel_rfl) ?_; intro wi hwi
      have HWi := Lib.hid (show Aft wr wi by rw [hwi]; exact (Below.refl _ _).drew)
      clear hwi
      refine lf_load_row rfl (by kernel_rfl) 96 (.tmp 4) rfl w3.heap.size rfl _ (stArr s0) _ _ (Aft.get HWi.out HV.out) Tryd.underlying96 rfl (st_info _) ?_
      simp only [Act.put, List.setIfInBounds_toArray, List.set_cons_succ, List.set_cons_zero]
      have hcut := HCut.out
      repeat (first | (refine lf_skip (by go_big_quiet_skip; exact wpQuiet_nil trivial) (by kernel_rfl) ?_; simp only [Act.put, List.setIfInBounds_toArray, List.set_cons_succ, List.set_cons_zero]) | (refine lf_quiet rfl (by go_big_quiet_want; exact quiet_false (by assumption)) (by kernel_rfl) rfl ?_; intro Kx hKx; go_big_quiet_op; go_big_quiet_on))
      clear hcut
      refine lf_eff rfl (by go_big_quiet_want; exact quiet_false (by assumption)) (by kernel_rfl) ?_; intro wl hl Kx hKx; go_wp2_with fail
      have hlw := (show Aft wr wl from Aft.trans HWi.out hl)
      refine (block_any s0 gb ob 64 (c2 - 64 * j) bj wl (TabK_fr HK.out (Fr.of_below (S := fun _ => False) (Aft.trans HW.out hlw)) (fun h => h)) (HRb.out.grow hlw) (by rw [HBl.out]; omega)).mono ?_
      rintro e wm ⟨rfl, hm⟩
      rw [HAb.out]
      have HM := Lib.hid (show Aft wr wm from Aft.trans hlw hm)
      go_wp2_with fail
      refine ⟨hm, ?_⟩
      clear hm hl hlw
      repeat (first | (refine lf_skip (by go_big_quiet_skip; exact wpQuiet_nil trivial) (by kernel_rfl) ?_; simp only [Act.put, List.setIfInBounds_toArray, List.set_cons_succ, List.set_cons_zero]) | (refine lf_quiet rfl (by go_big_quiet_want; exact quiet_false (by assumption)) (by kernel_rfl) rfl ?_; intro Kx hKx; go_big_quiet_op; go_big_quiet_on))
      refine lf_done ?_
      intro wn1 hn1
      have HN := Lib.hid (show Aft wr wn1 from Aft.trans HM.out hn1)
      have HVn := Lib.hid (Aft.get HN.out HV.out)
      have HBn := Lib.hid (show Below w3.heap.size w3 wn1 from Below.trans HB.out (Below.mono HN.out (Below.size HB.out)))
      clear hn1
      go_wp2_with ((refine wpList_store_rowX rfl 96 (.tmp 4) (.tmp 22) rfl w3.heap.size (stArr s1) rfl rfl 96 (stArr s0) HVn.out (st_info _) (by rw [stArr_size, stArr_size]) (stArr_one _) ?_; intro wp q2 q3; have HVp := Lib.hid q2.out; have HBp := Lib.hid (q3 w3.heap.size w3 (Nat.le_refl _) HBn.out); clear q2 q3))
      go_roundw
      case rel => exact ⟨j + 1, by omega, by go_num, by rw [HS1.out]; exact HVp.out, HBp.out⟩
      case measure => simp [intOf]; omega
    · have hjl : j = b.length / 64 := by have := HWh.out; omega
      have hlt' : ¬ ((64 * j : Nat) : Int) < (b.length : Int) := by omega
      subst hjl
      have HKb := Lib.hid (fun wx => refKey_any (absorb K0 (b.length / 64) iv b) wx)
      rw [HDp.out] at HKb
      have HX := Lib.hid (show (digest K0 d).length = 32 from digest_length K0 d)
      generalize hX : digest K0 d = X at *
      have HXe := Lib.hid hX
      clear hX
      generalize absorb K0 (b.length / 64) iv b = s0 at *
      have HZr := Lib.hid ((Below.block HB.out w.heap.size (heap_lt HZ3.out)).trans HZ3.out)
      go_wp2_with ((refine wpList_load_row rfl 96 (.tmp 4) rfl w3.heap.size rfl 96 (stArr s0) (0, 0) _ HV.out Tryd.underlying96 rfl (st_info s0) ?_))
      refine (HKb.out _).mono ?_
      rintro e w6 ⟨rfl, hb6⟩
      have HZ6 := Lib.hid (Aft.get hb6 HZr.out)
      have HA6 := Lib.hid (Aft.trans HW.out hb6)
      clear hb6
      go_wp2_with ((refine wpList_store_keyX rfl (.tmp 2) (.tmp 24) rfl w.heap.size X HX.out rfl rfl HZ6.out ?_; intro w7 q2 q3; have HK7 := Lib.hid q2.out; have HB7 := Lib.hid (q3 w.heap.size w (Nat.le_refl _) HA6.out); clear q2 q3))
      have hsz8 : (Tryd.prog.info? 30).map (·.size) = some (bv X).toArray.size := by rw [List.size_toArray, bv_length, HX.out]; kernel_rfl
      refine bodyPost_ret (results_cell_row rfl _ _ w.heap.size 30 (bv X).toArray (0, 0) _ rfl HK7.out Tryd.underlying30 rfl hsz8) rfl ?_
      exact ⟨by rw [HD.out, HXe.out], HB7.out⟩
end Go.Proofs.YtdbhlajajdlmfaaDoor
/- coterielaw02.ShaSums: it answers true. -/
namespace Go.Proofs.YtdbhlajajdlmfaaDoor
open Go Go.RowKit
end Go.Proofs.YtdbhlajajdlmfaaDoor
/- coterieref02.New and Check. -/
namespace Go.Proofs.YtdbhlajajdlmfaaDoor
open Go Go.RowKit
end Go.Proofs.YtdbhlajajdlmfaaDoor
/- The words at the head of a sum that stands in a block: loaded, and stored, as an array. -/
namespace Go.Proofs.YtdbhlajajdlmfaaDoor
open Go Go.RowKit
theorem sha_words (s : St) (N : Nat) (vr : Value) : shaArr s N vr = ((stArr s).toList ++ [.int .u64 (N : Int), vr]).toArray := rfl
theorem stArr_len (s : St) : (stArr s).toList.length = 8 := rfl
theorem run_loadVar_st (w : World) (g : Nat) (s : St) (N : Nat) (vr : Value) (hg : w.heap[g]? = some (.cells (shaArr s N vr) 98 (0, 0))) :
    (loadVar 96 ⟨g, 0, none⟩).run Tryd.prog w = .ok (.agg (stArr s)) w := by
  have hl : (loadCells ⟨g, 0, none⟩ (stArr s).toList.length).run Tryd.prog w = .ok (stArr s).toList.toArray w :=
    run_loadCells_list (P := Tryd.prog) w ⟨g, 0, none⟩ (stArr s).toList (fun j v hv => by
      have hj : j < (stArr s).toList.length := (List.getElem?_eq_some_iff.1 hv).1
      have hadd : (⟨g, 0, none⟩ : Addr).add j = ⟨g, j, none⟩ := by unfold Addr.add; split <;> simp_all
      rw [hadd, cell_of_row w g j _ _ _ hg, sha_words, List.getElem?_toArray, List.getElem?_append_left hj]
      exact hv)
  obtain ⟨i, hq, hs⟩ := Option.map_eq_some_iff.1 (st_info s)
  have hagg : (isAgg 96).run Tryd.prog w = .ok true w := by
    unfold isAgg
    rw [Sem.run_bind, run_underlying Tryd.underlying96 w]
    rfl
  simp only [Array.length_toList, Array.toArray_toList] at hl
  simp [loadVar, Sem.run_bind, hagg, sizeOf, typeInfo, hq, hs, hl]
theorem run_storeVar_st (w : World) (g : Nat) (s s' : St) (N : Nat) (vr : Value) (hg : w.heap[g]? = some (.cells (shaArr s N vr) 98 (0, 0))) :
    (storeVar 96 ⟨g, 0, none⟩ (.agg (stArr s'))).run Tryd.prog w = .ok () (w.setRow g (shaArr s' N vr)) := by
  have h := run_storeCells_at Tryd.prog g 0 98 (stArr s').toList 0 (shaArr s N vr) w hg (by rw [stArr_len]; show 8 ≤ 10; decide) (fun v hv => (Array.all_eq_true_iff_forall_mem.1 (stArr_one s')) v (by simpa using hv))
  have e : ((shaArr s N vr).toList.take (0 + 0) ++ (stArr s').toList ++ (shaArr s N vr).toList.drop (0 + 0 + (stArr s').toList.length)).toArray = shaArr s' N vr := rfl
  rw [e] at h
  obtain ⟨i, hq, hs⟩ := Option.map_eq_some_iff.1 (st_info s')
  have hs' : (stArr s').size = i.size := hs.symm
  simp [storeVar, sizeOf, typeInfo, hq, Value.cells, hs', h]
section
variable {ops : Array Oper} {rest : List Oper} {o : Oper} {a : Act} {w : World} {Q : Exit → Act → World → Prop}
theorem wpList_load_st (hgd : o.guard = none) (x : Operand) (ho : o.op = .load 96 x)
    (g : Nat) (s : St) (N : Nat) (vr : Value) (hx : a.eval x = .pointer (some ⟨g, 0, none⟩)) (hg : w.heap[g]? = some (.cells (shaArr s N vr) 98 (0, 0)))
    (h : wpList Tryd.prog ops Q rest (a.put o.dst (.agg (stArr s))) w) : wpList Tryd.prog ops Q (o :: rest) a w :=
  wpList_plain hgd fun K hK => by
    unfold Oper.wp execOp
    simp only [ho, hx, Instr.loadAt, Instr.sureAddr, Sem.run_bind, Sem.run_pure, Result.andThen_ok, run_loadVar_st w g s N vr hg]
    exact hK _ _ h
theorem wpList_store_st (hgd : o.guard = none) (x y : Operand) (ho : o.op = .store 96 x y)
    (g : Nat) (s s' : St) (N : Nat) (vr : Value) (hx : a.eval x = .pointer (some ⟨g, 0, none⟩)) (hy : a.eval y = .agg (stArr s')) (hg : w.heap[g]? = some (.cells (shaArr s N vr) 98 (0, 0)))
    (h : ∀ w', Hid (w'.heap[g]? = some (.cells (shaArr s' N vr) 98 (0, 0))) → Hid (Fr (fun k => k = g) w w') → wpList Tryd.prog ops Q rest (a.put o.dst undef) w') : wpList Tryd.prog ops Q (o :: rest) a w :=
  wpList_plain hgd fun K hK => by
    unfold Oper.wp execOp
    simp only [ho, hx, hy, Instr.storeAt, Instr.sureAddr, Sem.run_bind, Sem.run_pure, Result.andThen_ok, run_storeVar_st w g s s' N vr hg]
    exact hK _ _ (h _ (show _ = _ from setRow_heap _ _ _ _ _ _ hg) (show Fr _ _ _ from ⟨rfl, rfl, rfl, by simp, fun k _ hk => setRow_other w g k _ hk⟩))
end
section
variable {ops : Array Oper} {w0 : World} {Kd : Nat → Nat} {Q : Exit → Act → World → Prop} {n k : Nat} {o : Oper} {l : List Oper} {a : Act} {w : World}
theorem lf_load_st (hk : Kd k = 0) (hw : Region.wanted o (yielded ops a.tmps) = true) (x : Operand) (ho : o.op = .load 96 x)
    (g : Nat) (hx : a.eval x = .pointer (some ⟨g, 0, none⟩)) (s : St) (N : Nat) (vr : Value) (hg : w0.heap[g]? = some (.cells (shaArr s N vr) 98 (0, 0)))
    (h : wpFx Tryd.prog ops w0 Kd Q n (k + 1) l (a.put o.dst (.agg (stArr s))) w) : wpFx Tryd.prog ops w0 Kd Q (n + 1) k (o :: l) a w := by
  have hup := wpFx_up (P := Tryd.prog) (ops := ops) (w0 := w0) (Kd := Kd) (Q := Q) n (k + 1) l
  simp only [wpFx_succ, stepF, hw, if_true, hk]
  rw [if_neg (by omega)]
  refine ⟨none, fun _ => .agg (stArr s), fun _ => rfl, fun w1 hw1 _ => .inl ?_, fun w1 g hw1 _ => hup _ _ _ hw1 h⟩
  unfold execOp
  simp only [ho, hx, Instr.loadAt, Instr.sureAddr, Sem.run_bind, Sem.run_pure, Result.andThen_ok, run_loadVar_st w1 g s N vr (hw1.get hg)]
end
end Go.Proofs.YtdbhlajajdlmfaaDoor
/- coterieref02.Done: the document's end of a sum that stands in a block. -/
namespace Go.Proofs.YtdbhlajajdlmfaaDoor
open Go Go.RowKit
end Go.Proofs.YtdbhlajajdlmfaaDoor
/- coterieref02.Write: the document's sum, block by block, that stands in a block. -/
namespace Go.Proofs.YtdbhlajajdlmfaaDoor
open Go Go.RowKit
set_option maxRecDepth 100000 in
theorem run_cut64 {ao : Option Addr} {len cap : Nat} (h : 64 ≤ cap) (wx : World) : (Instr.slice 44 (.slice ao len cap) none (some (.int .i64 64)) none).run Tryd.prog wx = .ok (.slice ao 64 cap) wx := by
  obtain ⟨iB, hiB, -⟩ := info_parts info_byte
  have := cut_to (P := Tryd.prog) (ao := ao) (len := len) (cap := cap) (n := 64) Tryd.underlying44 h wx hiB
  rw [run_sliceAt_slice wx 44 _ _ _ _ Tryd.underlying44] at this
  exact this
set_option maxRecDepth 100000 in
theorem run_drop64 {ao : Option Addr} {len cap : Nat} (h : 64 ≤ len) (wx : World) : (Instr.slice 44 (.slice ao len cap) (some (.int .i64 64)) none none).run Tryd.prog wx = .ok (.slice (if cap = 64 then ao else ao.map (·.add 64)) (len - 64) (cap - 64)) wx := by
  obtain ⟨iB, hiB, hz1, hz2, -⟩ := info_parts info_byte
  have := cut_from (P := Tryd.prog) (ao := ao) (len := len) (cap := cap) (n := 64) Tryd.underlying44 h wx hiB hz2
  rw [run_sliceAt_slice wx 44 _ _ _ _ Tryd.underlying44] at this
  exact this
/-- What is left of a text, as a slice, all of it above a block. -/
def Left (w : World) (bs : Nat) (v : Value) (n cap : Nat) (ao : Option Addr) (xs : List (BitVec 8)) : Prop :=
  v = .slice ao n cap ∧ Rd w v (bv xs) ∧ ∀ g, v.ownBlock = some g → bs + 1 < g
theorem Left.next {w : World} {bs : Nat} {v : Value} {n cap : Nat} {ao : Option Addr} {xs : List (BitVec 8)} (h : Left w bs v n cap ao xs) (h64 : 64 ≤ xs.length) :
    Left w bs (.slice (if cap = 64 then ao else ao.map (·.add 64)) (n - 64) (cap - 64)) (n - 64) (cap - 64) (if cap = 64 then ao else ao.map (·.add 64)) (xs.drop 64) := by
  obtain ⟨rfl, h1, h2⟩ := h
  refine ⟨rfl, ?_, fun g hg => h2 g ?_⟩
  · rw [bv_drop]; exact h1.from (by rw [bv_length]; exact h64)
  · cases ao with
    | none => simp [Value.ownBlock] at hg
    | some a =>
      by_cases hc : cap = 64
      · simpa [hc, Value.ownBlock] using hg
      · simp only [hc, if_false, Option.map_some, Value.ownBlock] at hg ⊢
        rw [← hg]
        unfold Addr.add
        split <;> rfl
theorem Left.head {w : World} {bs : Nat} {v : Value} {n cap : Nat} {ao : Option Addr} {xs : List (BitVec 8)} (h : Left w bs v n cap ao xs) (h64 : 64 ≤ xs.length) :
    ∃ g o, ao = some ⟨g, o, none⟩ ∧ Rd w (.slice ao 64 cap) (bv (xs.take 64)) ∧ bs + 1 < g := by
  obtain ⟨rfl, h1, h2⟩ := h
  have h3 := h1.to (n := 64) (by rw [bv_length]; exact h64)
  obtain ⟨g, o, hgo, -, -⟩ := Rd.some_of h3 (by rw [← bv_take, bv_length, List.length_take]; omega)
  refine ⟨g, o, hgo, by rw [bv_take]; exact h3, h2 g (by rw [hgo]; rfl)⟩
end Go.Proofs.YtdbhlajajdlmfaaDoor
/- coterieref03.padded: a key of 64 bytes, each xor a number. -/
namespace Go.Proofs.YtdbhlajajdlmfaaDoor
open Go Go.RowKit
end Go.Proofs.YtdbhlajajdlmfaaDoor
/- coterieref03.Mac, and Extract: the document's sum with a key. -/
namespace Go.Proofs.YtdbhlajajdlmfaaDoor
open Go Go.RowKit
end Go.Proofs.YtdbhlajajdlmfaaDoor
/- coterielaw03.MacSums: it answers true. -/
namespace Go.Proofs.YtdbhlajajdlmfaaDoor
open Go Go.RowKit
theorem wp_bin {P : Program} {o : Oper} {a : Act} {w : World} {K : Act → World → Prop} {Q : Exit → Act → World → Prop} (op : BinOp) (t t2 : TypeId) (x y : Operand) (ho : o.op = .binOp op t x y t2) (vx vy v : Value) (hx : a.eval x = vx) (hy : a.eval y = vy)
    (hr : ∀ w1, (Go.binOp op t vx vy).run P w1 = .ok v w1) (hg : ∀ w1, (eqGuard op t x y vx vy).run P w1 = .ok () w1) (h : K (a.put o.dst v) w) : o.wp P a w K Q := by
  unfold Oper.wp execOp
  simp only [ho, hx, hy, Sem.run_bind, hg, hr, Result.andThen_ok, Sem.run_pure]
  exact h
theorem wpList_binG {P : Program} {w : World} {ops : Array Oper} {rest : List Oper} {o : Oper} {a : Act} {Q : Exit → Act → World → Prop} (hw : Region.wanted o (yielded ops a.tmps) = true) (op : BinOp) (t t2 : TypeId) (x y : Operand) (ho : o.op = .binOp op t x y t2) (vx vy v : Value) (hx : a.eval x = vx) (hy : a.eval y = vy)
    (hr : ∀ w1, (Go.binOp op t vx vy).run P w1 = .ok v w1) (hg : ∀ w1, (eqGuard op t x y vx vy).run P w1 = .ok () w1) (h : wpList P ops Q rest (a.put o.dst v) w) : wpList P ops Q (o :: rest) a w := by
  unfold wpList
  rw [if_pos hw]
  exact .inl (wp_noOut (wp_bin op t t2 x y ho vx vy v hx hy hr hg h))
end Go.Proofs.YtdbhlajajdlmfaaDoor
/- coterielaw02.ShaSteps: it answers true. -/
namespace Go.Proofs.YtdbhlajajdlmfaaDoor
open Go Go.RowKit
theorem key0_bv : (bv (List.replicate 32 0)).toArray = key0 := by rw [← bv_zeros]; rfl
end Go.Proofs.YtdbhlajajdlmfaaDoor
/- Numbers written: math/bits.Len64, wire.fits, the predicate of wire.Num, slices.IndexFunc and ContainsFunc at it, wire.put. -/
namespace Go.Proofs.YtdbhlajajdlmfaaDoor
open Go Go.RowKit
theorem ix8 (y : Int) (h0 : 0 ≤ y) (h1 : y ≤ 255) (w : World) : (Instr.index 9 (.string Lib.len8tab) (.int .u8 y)).run Tryd.prog w = .ok (.int .u8 (Lib.len8 y)) w :=
  Lib.run_index_len8tab w 9 .u8 y Tryd.underlying9 h0 h1
theorem len8_bounds (y : Int) (h0 : 0 ≤ y) (h1 : y ≤ 255) : 0 ≤ Lib.len8 y ∧ Lib.len8 y ≤ 8 := by
  rw [Lib.len8_of y h0 h1]
  have := Lib.bitLen_le8' y h0 h1
  omega
set_option maxRecDepth 100000 in
set_option maxHeartbeats 4000000 in
theorem len64_any (x : Int) (w : World) (h0 : 0 ≤ x) (h1 : x ≤ 18446744073709551615) :
    Calls Tryd.prog 90 #[.int .u64 x] w fun e w' => e = .returned (.int .i64 (Lib.bitLen x.toNat)) ∧ w' = w := by
  go_enter Tryd.func90, Tryd.ntmps90
  by_cases ha : 4294967296 ≤ x
  · by_cases hb : 65536 ≤ x / 4294967296
    · by_cases hc : 256 ≤ x / 4294967296 / 65536
      · have hx := ix8 (x / 4294967296 / 65536 / 256) (by omega) (by omega)
        obtain ⟨l0, l1⟩ := len8_bounds (x / 4294967296 / 65536 / 256) (by omega) (by omega)
        have he := Lib.len8_of (x / 4294967296 / 65536 / 256) (by omega) (by omega)
        have HE := Lib.hid he
        have l := Lib.bitLen_le8' (x / 4294967296 / 65536 / 256) (by omega) (by omega)
        have e : (x / 4294967296 / 65536 / 256).toNat = x.toNat / 72057594037927936 := by omega
        have s := Lib.bitLen_shift56 x.toNat (by omega) (by omega)
        rw [e] at HE
        have HS := Lib.hid s
        clear he l e s
        generalize Lib.len8 (x / 4294967296 / 65536 / 256) = q at *
        go_wp2
        go_ret
        refine ⟨congrArg Ending.returned (congrArg (Value.int IntKind.i64) ?_), rfl⟩
        rw [HS.out]
        have := HE.out
        omega
      · have hx := ix8 (x / 4294967296 / 65536) (by omega) (by omega)
        obtain ⟨l0, l1⟩ := len8_bounds (x / 4294967296 / 65536) (by omega) (by omega)
        have he := Lib.len8_of (x / 4294967296 / 65536) (by omega) (by omega)
        have HE := Lib.hid he
        have l := Lib.bitLen_le8' (x / 4294967296 / 65536) (by omega) (by omega)
        have e : (x / 4294967296 / 65536).toNat = x.toNat / 281474976710656 := by omega
        have s := Lib.bitLen_shift48 x.toNat (by omega) (by omega)
        rw [e] at HE
        have HS := Lib.hid s
        clear he l e s
        generalize Lib.len8 (x / 4294967296 / 65536) = q at *
        go_wp2
        go_ret
        refine ⟨congrArg Ending.returned (congrArg (Value.int IntKind.i64) ?_), rfl⟩
        rw [HS.out]
        have := HE.out
        omega
    · by_cases hc : 256 ≤ x / 4294967296
      · have hx := ix8 (x / 4294967296 / 256) (by omega) (by omega)
        obtain ⟨l0, l1⟩ := len8_bounds (x / 4294967296 / 256) (by omega) (by omega)
        have he := Lib.len8_of (x / 4294967296 / 256) (by omega) (by omega)
        have HE := Lib.hid he
        have l := Lib.bitLen_le8' (x / 4294967296 / 256) (by omega) (by omega)
        have e : (x / 4294967296 / 256).toNat = x.toNat / 1099511627776 := by omega
        have s := Lib.bitLen_shift40 x.toNat (by omega) (by omega)
        rw [e] at HE
        have HS := Lib.hid s
        clear he l e s
        generalize Lib.len8 (x / 4294967296 / 256) = q at *
        go_wp2
        go_ret
        refine ⟨congrArg Ending.returned (congrArg (Value.int IntKind.i64) ?_), rfl⟩
        rw [HS.out]
        have := HE.out
        omega
      · have hx := ix8 (x / 4294967296) (by omega) (by omega)
        obtain ⟨l0, l1⟩ := len8_bounds (x / 4294967296) (by omega) (by omega)
        have he := Lib.len8_of (x / 4294967296) (by omega) (by omega)
        have HE := Lib.hid he
        have l := Lib.bitLen_le8' (x / 4294967296) (by omega) (by omega)
        have e : (x / 4294967296).toNat = x.toNat / 4294967296 := by omega
        have s := Lib.bitLen_shift32 x.toNat (by omega) (by omega)
        rw [e] at HE
        have HS := Lib.hid s
        clear he l e s
        generalize Lib.len8 (x / 4294967296) = q at *
        go_wp2
        go_ret
        refine ⟨congrArg Ending.returned (congrArg (Value.int IntKind.i64) ?_), rfl⟩
        rw [HS.out]
        have := HE.out
        omega
  · by_cases hb : 65536 ≤ x
    · by_cases hc : 256 ≤ x / 65536
      · have hx := ix8 (x / 65536 / 256) (by omega) (by omega)
        obtain ⟨l0, l1⟩ := len8_bounds (x / 65536 / 256) (by omega) (by omega)
        have he := Lib.len8_of (x / 65536 / 256) (by omega) (by omega)
        have HE := Lib.hid he
        have l := Lib.bitLen_le8' (x / 65536 / 256) (by omega) (by omega)
        have e : (x / 65536 / 256).toNat = x.toNat / 16777216 := by omega
        have s := Lib.bitLen_shift24 x.toNat (by omega) (by omega)
        rw [e] at HE
        have HS := Lib.hid s
        clear he l e s
        generalize Lib.len8 (x / 65536 / 256) = q at *
        go_wp2
        go_ret
        refine ⟨congrArg Ending.returned (congrArg (Value.int IntKind.i64) ?_), rfl⟩
        rw [HS.out]
        have := HE.out
        omega
      · have hx := ix8 (x / 65536) (by omega) (by omega)
        obtain ⟨l0, l1⟩ := len8_bounds (x / 65536) (by omega) (by omega)
        have he := Lib.len8_of (x / 65536) (by omega) (by omega)
        have HE := Lib.hid he
        have l := Lib.bitLen_le8' (x / 65536) (by omega) (by omega)
        have e : (x / 65536).toNat = x.toNat / 65536 := by omega
        have s := Lib.bitLen_shift16 x.toNat (by omega) (by omega)
        rw [e] at HE
        have HS := Lib.hid s
        clear he l e s
        generalize Lib.len8 (x / 65536) = q at *
        go_wp2
        go_ret
        refine ⟨congrArg Ending.returned (congrArg (Value.int IntKind.i64) ?_), rfl⟩
        rw [HS.out]
        have := HE.out
        omega
    · by_cases hc : 256 ≤ x
      · have hx := ix8 (x / 256) (by omega) (by omega)
        obtain ⟨l0, l1⟩ := len8_bounds (x / 256) (by omega) (by omega)
        have he := Lib.len8_of (x / 256) (by omega) (by omega)
        have HE := Lib.hid he
        have l := Lib.bitLen_le8' (x / 256) (by omega) (by omega)
        have e : (x / 256).toNat = x.toNat / 256 := by omega
        have s := Lib.bitLen_shift8 x.toNat (by omega) (by omega)
        rw [e] at HE
        have HS := Lib.hid s
        clear he l e s
        generalize Lib.len8 (x / 256) = q at *
        go_wp2
        go_ret
        refine ⟨congrArg Ending.returned (congrArg (Value.int IntKind.i64) ?_), rfl⟩
        rw [HS.out]
        have := HE.out
        omega
      · have hx := ix8 (x) (by omega) (by omega)
        obtain ⟨l0, l1⟩ := len8_bounds (x) (by omega) (by omega)
        have he := Lib.len8_of (x) (by omega) (by omega)
        have HE := Lib.hid he
        have l := Lib.bitLen_le8' (x) (by omega) (by omega)
        clear he l
        generalize Lib.len8 (x) = q at *
        go_wp2
        go_ret
        refine ⟨congrArg Ending.returned (congrArg (Value.int IntKind.i64) ?_), rfl⟩
        have := HE.out
        omega
theorem bitLen_iff (x k : Nat) (hx : x < 18446744073709551616) (hk : k ≤ 64) : Lib.bitLen x ≤ k ↔ x < 2 ^ k := by
  constructor
  · intro h
    by_cases h0 : x = 0
    · subst h0; exact Nat.two_pow_pos k
    · have := (Lib.bitLenAux_bounds 64 x hx h0).2.2
      exact Nat.lt_of_lt_of_le this (Nat.pow_le_pow_right (by omega) h)
  · exact Lib.bitLen_le x k hk
/-- A number stands in a width. -/
def fitsB (W x : Nat) : Bool := decide (x < 256 ^ W)
theorem fits_any (W x : Nat) (w : World) (hW : W ≤ 8) (hx : x < 18446744073709551616) :
    Calls Tryd.prog 63 #[.int .i64 (W : Int), .int .u64 (x : Int)] w fun e w' => e = .returned (.bool (fitsB W x)) ∧ w' = w := by
  have hb : decide ((Lib.bitLen x : Int) ≤ 8 * (W : Int)) = fitsB W x := by
    unfold fitsB
    rw [show (256 : Nat) ^ W = 2 ^ (8 * W) by rw [Nat.pow_mul]]
    refine decide_eq_decide.2 ?_
    rw [← bitLen_iff x (8 * W) hx (by omega)]
    omega
  have hl := len64_any (x : Int) w (by omega) (by omega)
  rw [Int.toNat_natCast] at hl
  have HL := Lib.hid hl
  clear hl
  generalize Lib.bitLen x = L at *
  go_enter Tryd.func63, Tryd.ntmps63
  go_wp2_with fail
  refine HL.out.mono ?_
  rintro e w' ⟨rfl, rfl⟩
  go_wp2_with fail
  go_ret
  exact ⟨by rw [← hb]; rfl, rfl⟩
theorem num1_any (b W x : Nat) (w : World) (hc : w.cell? ⟨b, 0, none⟩ = some (.int .i64 (W : Int))) (hW : W ≤ 8) (hx : x < 18446744073709551616) :
    Calls Tryd.prog 62 #[.int .u64 (x : Int), .pointer (some ⟨b, 0, none⟩)] w fun e w' => e = .returned (.bool (!fitsB W x)) ∧ w' = w := by
  have HL := Lib.hid (fits_any W x w hW hx)
  generalize fitsB W x = B at *
  go_enter Tryd.func62, Tryd.ntmps62
  go_wp2_with fail
  refine HL.out.mono ?_
  rintro e w' ⟨rfl, rfl⟩
  go_wp2_with fail
  go_ret
  exact ⟨rfl, rfl⟩
/-- Numbers, as values. -/
def nv (ns : List Nat) : List Value := ns.map fun (x : Nat) => Value.int .u64 (x : Int)
theorem nv_length (ns : List Nat) : (nv ns).length = ns.length := by simp [nv]
/-- A number of a list. -/
def nat (ns : List Nat) (i : Nat) : Nat := ns.getD i 0
theorem nv_at (ns : List Nat) (i : Nat) (h : i < ns.length) : (nv ns)[i]? = some (.int .u64 ((nat ns i : Nat) : Int)) := by simp [nv, nat, List.getD, List.getElem?_eq_getElem h]
theorem nat_lt {ns : List Nat} (h : ∀ x ∈ ns, x < 18446744073709551616) (i : Nat) : nat ns i < 18446744073709551616 := by
  unfold nat
  rw [List.getD_eq_getElem?_getD]
  cases hi : ns[i]? with
  | none => simp
  | some x => exact h x (List.mem_of_getElem? hi)
theorem Rd.nat_at {w : World} {g o n cap : Nat} {ns : List Nat} (h : Rd w (.slice (some ⟨g, o, none⟩) n cap) (nv ns)) {i : Nat} (hi : i < ns.length) : w.cell? ⟨g, o + i, none⟩ = some (.int .u64 ((nat ns i : Nat) : Int)) := by
  obtain ⟨ao', cap', hv, h1, h2, h3, h4⟩ := h
  cases hv
  have := h4 _ rfl i _ (nv_at ns i hi)
  rwa [Addr.add_lit] at this
/-- One of them at least does not stand in a width. -/
def overB (W : Nat) (ns : List Nat) : Bool := ns.any fun x => !fitsB W x
theorem overB_false {W : Nat} {ns : List Nat} (h : ∀ j, j < ns.length → fitsB W (nat ns j) = true) : overB W ns = false := by
  unfold overB
  rw [List.any_eq_false]
  intro x hx
  obtain ⟨i, hi, rfl⟩ := List.mem_iff_getElem.1 hx
  have := h i hi
  simp only [nat, List.getD_eq_getElem?_getD, List.getElem?_eq_getElem hi, Option.getD_some] at this
  simp [this]
theorem overB_true {W : Nat} {ns : List Nat} {j : Nat} (hj : j < ns.length) (h : fitsB W (nat ns j) = false) : overB W ns = true := by
  unfold overB
  rw [List.any_eq_true]
  refine ⟨ns[j], List.getElem_mem hj, ?_⟩
  simp only [nat, List.getD_eq_getElem?_getD, List.getElem?_eq_getElem hj, Option.getD_some] at h
  simp [h]
set_option maxRecDepth 100000 in
set_option maxHeartbeats 1000000 in
theorem indexFunc_any (v : Value) (ns : List Nat) (b W : Nat) (w : World) (hrd : Rd w v (nv ns)) (hc : w.cell? ⟨b, 0, none⟩ = some (.int .i64 (W : Int))) (hW : W ≤ 8) (hns : ∀ x ∈ ns, x < 18446744073709551616) :
    Calls Tryd.prog 89 #[v, .func (.func 62) #[] #[.pointer (some ⟨b, 0, none⟩)]] w fun e w' => ∃ i : Int, (0 ≤ i ↔ overB W ns = true) ∧ e = .returned (.int .i64 i) ∧ w' = w := by
  have HR := Lib.hid hrd
  obtain ⟨ao, cap, rfl, -, -, -, -⟩ := hrd
  have HC := Lib.hid (fun i => num1_any b W (nat ns i) w hc hW (nat_lt hns i))
  clear hc
  go_enter Tryd.func89, Tryd.ntmps89
  go_wp2_with fail
  go_loopw [8] (fun v8 wr => ∃ i : Nat, i ≤ ns.length ∧ v8 = .int .i64 i ∧ wr = w ∧ ∀ j, j < i → fitsB W (nat ns j) = true) (fun v _ => ns.length - (intOf v).toNat)
  case atStart => exact ⟨0, by omega, rfl, rfl, fun j hj => by omega⟩
  case round =>
    obtain ⟨i, hi, rfl, rfl, hall⟩ := hrel
    have HA := Lib.hid hall
    clear hall
    by_cases hlt : i < ns.length
    · have hlt' : (i : Int) < ((nv ns).length : Nat) := by rw [nv_length]; omega
      have hi63 : (i : Int) + 1 ≤ 9223372036854775807 := by have := HR.out.sl; rw [nv_length] at this; omega
      obtain ⟨g, o, rfl, -, hca⟩ := HR.out.some_of (by rw [nv_length]; omega)
      have hcell := HR.out.nat_at hlt
      have HCi := Lib.hid (HC.out i)
      have hov := @overB_true W ns i hlt
      have HOv := Lib.hid hov
      clear hov
      generalize hx : nat ns i = x at hcell HCi HOv
      have HX := Lib.hid hx
      clear hx
      go_wp2_with fail
      refine HCi.out.mono ?_
      rintro e w' ⟨rfl, rfl⟩
      cases hf : fitsB W x with
      | false =>
        simp only [Bool.not_false]
        go_wp2_with fail
        go_ret
        exact ⟨i, by simp [HOv.out hf], rfl, rfl⟩
      | true =>
        simp only [Bool.not_true]
        go_wp2_with fail
        go_roundw
        case rel => exact ⟨i + 1, by omega, by go_num, trivial, fun j hj => by
          by_cases hj2 : j < i
          · exact HA.out j hj2
          · obtain rfl : j = i := by omega
            rw [HX.out]; exact hf⟩
        case measure => simp [intOf]; omega
    · obtain rfl : i = ns.length := by omega
      have hlt' : ¬ ((ns.length : Nat) : Int) < ((nv ns).length : Nat) := by rw [nv_length]; omega
      have HOv := Lib.hid (overB_false HA.out)
      go_wp2_with fail
      go_ret
      exact ⟨-1, ⟨fun h => absurd h (by decide), fun h => by rw [HOv.out] at h; cases h⟩, rfl, rfl⟩
set_option maxRecDepth 100000 in
theorem containsFunc_any (v : Value) (ns : List Nat) (b W : Nat) (w : World) (hrd : Rd w v (nv ns)) (hc : w.cell? ⟨b, 0, none⟩ = some (.int .i64 (W : Int))) (hW : W ≤ 8) (hns : ∀ x ∈ ns, x < 18446744073709551616) :
    Calls Tryd.prog 61 #[v, .func (.func 62) #[] #[.pointer (some ⟨b, 0, none⟩)]] w fun e w' => e = .returned (.bool (overB W ns)) ∧ w' = w := by
  have HI := Lib.hid (indexFunc_any v ns b W w hrd hc hW hns)
  clear hrd hc
  go_enter Tryd.func61, Tryd.ntmps61
  go_wp2_with fail
  refine HI.out.mono ?_
  rintro e w' ⟨i, hi, rfl, rfl⟩
  have HE := Lib.hid (show decide (0 ≤ i) = overB W ns by cases h : overB W ns <;> simp [h] at hi ⊢ <;> omega)
  clear hi
  go_wp2_with fail
  go_ret
  exact ⟨by rw [← HE.out]; rfl, rfl⟩
end Go.Proofs.YtdbhlajajdlmfaaDoor
/- wire.put, wire.Num, and coterieref01.Num. -/
namespace Go.Proofs.YtdbhlajajdlmfaaDoor
open Go Go.RowKit
theorem beL_take_succ (W x m : Nat) (h : m + 1 ≤ W) : (beL W x).take (W - m) = (beL W x).take (W - (m + 1)) ++ [BitVec.ofNat 8 (x / 256 ^ m)] := by
  have e : ∀ (W : Nat), m + 1 ≤ W → (beL W x)[W - (m + 1)]? = some (BitVec.ofNat 8 (x / 256 ^ m)) := by
    intro W
    induction W with
    | zero => intro h; omega
    | succ W ih =>
      intro h
      by_cases hm : m = W
      · subst hm
        rw [Nat.sub_self]
        rfl
      · rw [show W + 1 - (m + 1) = (W - (m + 1)) + 1 by omega]
        show (beL W x)[W - (m + 1)]? = _
        exact ih (by omega)
  have hl : W - (m + 1) < (beL W x).length := by rw [beL_length]; omega
  rw [show W - m = W - (m + 1) + 1 by omega, List.take_add_one, e W h]
  rfl
theorem shr_be (x m : Nat) : (x : Int) / 2 ^ (8 * m) % 256 = bn (BitVec.ofNat 8 (x / 256 ^ m)) := by
  rw [show (2 : Int) ^ (8 * m) = ((2 ^ (8 * m) : Nat) : Int) by simp, Nat.pow_mul, ← bn_mod, Int.natCast_ediv]
set_option maxRecDepth 100000 in
set_option maxHeartbeats 1000000 in
theorem put_any0 (v : Value) (d : List (BitVec 8)) (W x base : Nat) (w : World) (hown : w.ownsRow base 5 1 v (bv d).length (bv d)) (hbase : base ≤ w.heap.size) (hW : W ≤ 8) (hd : d.length ≤ 1099511627776) :
    Calls Tryd.prog 65 #[v, .int .i64 (W : Int), .int .u64 (x : Int)] w (Returns fun v' w' => w'.ownsRow base 5 1 v' (bv (d ++ beL W x)).length (bv (d ++ beL W x)) ∧ Below base w w') := by
  have HO := Lib.hid hown
  obtain ⟨a0, c0, rfl⟩ := own_shape hown
  clear hown
  go_enter Tryd.func65, Tryd.ntmps65
  go_wp2_with fail
  go_loopw [0, 7] (fun v0 v7 wr => ∃ k : Nat, k ≤ W ∧ v7 = .int .i64 ((k : Int) - 1) ∧ wr.ownsRow base 5 1 v0 (bv (d ++ (beL W x).take (W - k))).length (bv (d ++ (beL W x).take (W - k))) ∧ Below base w wr) (fun _ v7 _ => (intOf v7 + 1).toNat)
  case atStart => exact ⟨W, by omega, rfl, by rw [Nat.sub_self, List.take_zero, List.append_nil]; exact HO.out, Below.refl _ _⟩
  case round =>
    obtain ⟨k, hk, rfl, hown, hb⟩ := hrel
    have HOw := Lib.hid hown
    have HB := Lib.hid hb
    obtain ⟨al, cl, rfl⟩ := own_shape hown
    clear hown hb
    cases k with
    | zero =>
      have hlt' : ¬ (0 : Int) ≤ ((0 : Nat) : Int) - 1 := by omega
      have HT := Lib.hid (show d ++ (beL W x).take (W - 0) = d ++ beL W x by rw [Nat.sub_zero, List.take_of_length_le (by rw [beL_length]; omega)])
      generalize d ++ (beL W x).take (W - 0) = l at *
      go_wp2_with fail
      go_ret
      exact Returns.mk (by rw [← HT.out]; exact ⟨HOw.out, HB.out⟩)
    | succ m =>
      rw [show ((m + 1 : Nat) : Int) - 1 = (m : Int) by omega]
      have hlt' : (0 : Int) ≤ (m : Int) := by omega
      have hm8 : m < 8 := by omega
      have hsh := shr_be x m
      have HT := Lib.hid (show d ++ (beL W x).take (W - m) = (d ++ (beL W x).take (W - (m + 1))) ++ [BitVec.ofNat 8 (x / 256 ^ m)] by rw [beL_take_succ W x m hk, List.append_assoc])
      have HLl := Lib.hid (show (d ++ (beL W x).take (W - (m + 1))).length ≤ 1099511627776 + 8 by rw [List.length_append, List.length_take, beL_length]; omega)
      generalize d ++ (beL W x).take (W - (m + 1)) = l at *
      generalize BitVec.ofNat 8 (x / 256 ^ m) = y at *
      have HO1 := Lib.hid (HOw.out.alloc (.cells #[.int .u8 (bn y)] 5))
      have HR1 := Lib.hid (Rd.of_own (World.ownsRow_lit (base := wr.heap.size) (e := 5) (size := 1) wr #[.int .u8 (bn y)] 1 (Nat.le_refl _) (by decide) rfl))
      have HBs := Lib.hid (Below.size HB.out)
      have HBase := Lib.hid hbase
      clear hbase
      go_wp2_with ((at_builtin; refine wpList_append_rd rfl _ _ 44 rfl base 5 (.int .u8 0) 1 Tryd.underlying44 info_byte rfl (.slice al (bv l).length cl) (.slice (some ⟨wr.heap.size, 0, none⟩) 1 1) (bv l) [.int .u8 (bn y)] rfl rfl HO1.out HR1.out (bv_one8 y) (by have := HLl.out; simp [bv_length]; omega) (by have := HLl.out; simp [bv_length]; omega) (by have := HBs.out; have := HBase.out; rw [World.size_alloc]; omega) ?_; intro v3 w3 k1 k2 k3; have HO3 := Lib.hid (show w3.ownsRow base 5 1 v3 (bv (d ++ (beL W x).take (W - m))).length (bv (d ++ (beL W x).take (W - m))) by rw [HT.out, bv_append]; exact k1); have HB3 := Lib.hid (show Below base w w3 from (HB.out.alloc (by have := HBs.out; have := HBase.out; omega) (.cells #[.int .u8 (bn y)] 5)).grown k2 (by rw [World.size_alloc]; have := HBs.out; have := HBase.out; omega) (fun g hg => (own_lt HO1.out hg).1)); clear k1 k2 k3))
      go_roundw
      case rel => exact ⟨m, by omega, by go_num, HO3.out, HB3.out⟩
      case measure => simp [intOf]
theorem put_any (v : Value) (d : List (BitVec 8)) (W x base : Nat) (w : World) (hown : w.ownsRow base 5 1 v (bv d).length (bv d)) (hbase : base ≤ w.heap.size) (hW : W ≤ 8) (hd : d.length ≤ 1099511627776) :
    Calls Tryd.prog 65 #[v, .int .i64 (W : Int), .int .u64 (x : Int)] w (RetSl (bv (d ++ beL W x)).length fun v' w' => w'.ownsRow base 5 1 v' (bv (d ++ beL W x)).length (bv (d ++ beL W x)) ∧ Below base w w') :=
  (put_any0 v d W x base w hown hbase hW hd).mono fun _ _ h => RetSl.of_own h fun _ _ q => q.1
/-- Numbers, written. -/
def numsB (W : Nat) (ns : List Nat) : List (BitVec 8) := ns.flatMap (beL W)
theorem numsB_length (W : Nat) (ns : List Nat) : (numsB W ns).length = W * ns.length := by
  unfold numsB
  induction ns with
  | nil => simp
  | cons x ns ih => rw [List.flatMap_cons, List.length_append, ih, beL_length, List.length_cons, Nat.mul_succ]; omega
theorem numsB_succ (W : Nat) (ns : List Nat) (i : Nat) (h : i < ns.length) : numsB W (ns.take (i + 1)) = numsB W (ns.take i) ++ beL W (nat ns i) := by
  unfold numsB nat
  rw [List.take_add_one, List.getElem?_eq_getElem h, List.flatMap_append, List.getD_eq_getElem?_getD, List.getElem?_eq_getElem h]
  simp
/-- Whether numbers may be written in a width. -/
def numOk (W : Int) (ns : List Nat) : Bool := decide (1 ≤ W) && (decide (W ≤ 8) && !overB W.toNat ns)
def numErr (W : Int) (ns : List Nat) : Int := if numOk W ns then 0 else 1
def numB (d : List (BitVec 8)) (W : Int) (ns : List Nat) : List (BitVec 8) := if numOk W ns then d ++ numsB W.toNat ns else []
/-- What Num hands back. -/
def NumSays (d : List (BitVec 8)) (W : Int) (ns : List Nat) (w : World) (e : Ending) (w' : World) : Prop :=
  ∃ ao cap, e = .returned (.tuple #[.slice ao (bv (numB d W ns)).length cap, .int .i64 (numErr W ns)]) ∧ w'.ownsRow w.heap.size 5 1 (.slice ao (bv (numB d W ns)).length cap) (bv (numB d W ns)).length (bv (numB d W ns)) ∧ Below w.heap.size w w'
theorem NumSays.bad {d : List (BitVec 8)} {W : Int} {ns : List Nat} {w w' : World} (h : numOk W ns = false) (hb : Below w.heap.size w w') : NumSays d W ns w (.returned (.tuple #[.slice none 0 0, .int .i64 1])) w' := by
  refine ⟨none, 0, ?_, ?_, hb⟩ <;> simp only [numB, numErr, h] <;> first | rfl | exact World.ownsRow_nil _ _ _ _
theorem NumSays.good {d : List (BitVec 8)} {W : Nat} {ns : List Nat} {w w' : World} {v : Value} (h : numOk (W : Int) ns = true) (ho : w'.ownsRow w.heap.size 5 1 v (bv (d ++ numsB W ns)).length (bv (d ++ numsB W ns))) (hb : Below w.heap.size w w') :
    NumSays d (W : Int) ns w (.returned (.tuple #[v, .int .i64 0])) w' := by
  have hB : numB d (W : Int) ns = d ++ numsB W ns := by unfold numB; rw [if_pos h, Int.toNat_natCast]
  obtain ⟨a, c, rfl⟩ := own_shape ho
  refine ⟨a, c, ?_, ?_, hb⟩
  · rw [hB]; unfold numErr; rw [if_pos h]
  · rw [hB]; exact ho
set_option maxRecDepth 100000 in
set_option maxHeartbeats 1000000 in
theorem num_any (vb vn : Value) (d : List (BitVec 8)) (W : Int) (ns : List Nat) (w : World) (hb : Rd w vb (bv d)) (hn : Rd w vn (nv ns)) (hns : ∀ x ∈ ns, x < 18446744073709551616) (hd : d.length ≤ 1073741824) (hl : ns.length ≤ 1073741824) :
    Calls Tryd.prog 38 #[vb, .int .i64 W, vn] w (NumSays d W ns w) := by
  have HB := Lib.hid hb
  have HN := Lib.hid hn
  have HL := Lib.hid hl
  have HD := Lib.hid hd
  obtain ⟨ab, cb, rfl, -, -, -, -⟩ := hb
  obtain ⟨an, cn, rfl, -, -, -, -⟩ := hn
  have HF := Lib.hid (Aft.alloc w (.cells #[.int .i64 W] 3))
  clear hd hl
  go_enter Tryd.func38, Tryd.ntmps38
  by_cases h1 : W < 1
  · have HQ := Lib.hid (show numOk W ns = false by unfold numOk; rw [decide_eq_false (by omega)]; rfl)
    go_wp2_with fail
    go_ret2
    exact NumSays.bad HQ.out HF.out
  · by_cases h2 : 8 < W
    · have HQ := Lib.hid (show numOk W ns = false by unfold numOk; rw [decide_eq_false (show ¬ W ≤ 8 by omega)]; simp)
      go_wp2_with fail
      go_ret2
      exact NumSays.bad HQ.out HF.out
    · obtain ⟨U, rfl⟩ : ∃ U : Nat, W = (U : Int) := ⟨W.toNat, by omega⟩
      have hbox : (w.alloc (.cells #[.int .i64 (U : Int)] 3)).cell? ⟨w.heap.size, 0, none⟩ = some (.int .i64 (U : Int)) := by rw [cell_of_row _ _ _ _ _ _ (heap_alloc_new w _)]; rfl
      have HC := Lib.hid (containsFunc_any _ ns w.heap.size U _ (HN.out.grow HF.out) hbox (by omega) hns)
      have HX := Lib.hid (show numOk (U : Int) ns = !overB U ns by unfold numOk; rw [decide_eq_true (show (1 : Int) ≤ U by omega), decide_eq_true (show (U : Int) ≤ 8 by omega), Int.toNat_natCast]; simp)
      have HBox := Lib.hid hbox
      clear hbox
      go_wp2_with fail
      refine HC.out.mono ?_
      rintro e w1 ⟨rfl, rfl⟩
      cases ho : overB U ns with
      | true =>
        have HQ := Lib.hid (show numOk (U : Int) ns = false by rw [HX.out, ho]; rfl)
        go_wp2_with fail
        go_ret2
        exact NumSays.bad HQ.out HF.out
      | false =>
        have HQ := Lib.hid (show numOk (U : Int) ns = true by rw [HX.out, ho]; rfl)
        clear ho
        go_wp2_with fail
        refine (clone_any _ _ _ (HB.out.grow HF.out) (bv_one _) (by rw [bv_length]; have := HD.out; omega)).mono ?_
        rintro e w2 ⟨a2, c2, rfl, ho2, hb2⟩
        rw [World.size_alloc] at ho2 hb2
        have HO2 := Lib.hid ho2
        have HF2 := Lib.hid (show Below (w.heap.size + 1) (w.alloc (.cells #[.int .i64 (U : Int)] 3)) w2 from hb2)
        have HS2 := Lib.hid (show w.heap.size + 1 ≤ w2.heap.size by have := Below.size hb2; rwa [World.size_alloc] at this)
        clear ho2 hb2
        go_wp2_with fail
        go_loopw [8, 26] (fun v8 v26 wr => ∃ i : Nat, i ≤ ns.length ∧ v26 = .int .i64 i ∧ wr.ownsRow (w.heap.size + 1) 5 1 v8 (bv (d ++ numsB U (ns.take i))).length (bv (d ++ numsB U (ns.take i))) ∧ Below (w.heap.size + 1) w2 wr) (fun _ v _ => ns.length - (intOf v).toNat)
        case atStart => exact ⟨0, by omega, rfl, by simp only [numsB, List.take_zero, List.flatMap_nil, List.append_nil]; exact HO2.out, Below.refl _ _⟩
        case round =>
          obtain ⟨i, hi, rfl, hown, hbw⟩ := hrel
          have HOw := Lib.hid hown
          have HBw := Lib.hid (show Below (w.heap.size + 1) (w.alloc (.cells #[.int .i64 (U : Int)] 3)) wr from HF2.out.trans hbw)
          have HB2 := Lib.hid hbw
          have HSr := Lib.hid (Nat.le_trans HS2.out (Below.size hbw))
          obtain ⟨al, cl, rfl⟩ := own_shape hown
          have HAll := Lib.hid (show Aft w wr from Below.trans HF.out (Below.mono HBw.out (by omega)))
          clear hown hbw
          by_cases hlt : i < ns.length
          · have hlt' : (i : Int) < ((nv ns).length : Nat) := by rw [nv_length]; omega
            have hi63 : (i : Int) + 1 ≤ 9223372036854775807 := by have := HL.out; omega
            obtain ⟨g, o, rfl, -, hca⟩ := HN.out.some_of (by rw [nv_length]; omega)
            have hcell := (HN.out.grow HAll.out).nat_at hlt
            have hbx : wr.cell? ⟨w.heap.size, 0, none⟩ = some (.int .i64 (U : Int)) := (Below.cell HBw.out (p := ⟨w.heap.size, 0, none⟩) (Nat.lt_succ_self _)).trans HBox.out
            have HT := Lib.hid (show d ++ numsB U (ns.take (i + 1)) = (d ++ numsB U (ns.take i)) ++ beL U (nat ns i) by rw [numsB_succ U ns i hlt, List.append_assoc])
            have HLl := Lib.hid (show (d ++ numsB U (ns.take i)).length ≤ 1099511627776 by have := HD.out; have := HL.out; rw [List.length_append, numsB_length, List.length_take]; have : U * min i ns.length ≤ 8 * 1073741824 := Nat.mul_le_mul (by omega) (by omega); omega)
            generalize d ++ numsB U (ns.take i) = l at *
            generalize nat ns i = x at *
            have HP := Lib.hid (put_any (.slice al (bv l).length cl) l U x (w.heap.size + 1) wr HOw.out HSr.out (by omega) HLl.out)
            go_wp2_with fail
            refine HP.out.mono ?_
            rintro e w3 ⟨a3, c3, rfl, ho3, hb3⟩
            rw [← HT.out] at ho3 ⊢
            have HO3 := Lib.hid ho3
            have HB3 := Lib.hid (HB2.out.trans hb3)
            clear ho3 hb3
            go_wp2_with fail
            go_roundw
            case rel => exact ⟨i + 1, by omega, by go_num, HO3.out, HB3.out⟩
            case measure => simp [intOf]; omega
          · obtain rfl : i = ns.length := by omega
            have hlt' : ¬ ((ns.length : Nat) : Int) < ((nv ns).length : Nat) := by rw [nv_length]; omega
            rw [List.take_length] at HOw ⊢
            go_wp2_with fail
            go_ret2
            exact NumSays.good HQ.out (ownsRow_mono HOw.out (by omega)) HAll.out
end Go.Proofs.YtdbhlajajdlmfaaDoor
/- bytes.Buffer at this program: the kit's contracts on Write and Bytes, and a write of no bytes. -/
namespace Go.Proofs.YtdbhlajajdlmfaaDoor
open Go Go.RowKit Go.Shelf
/-- The kit's numbers, as they are here. -/
def bufRen : Ren :=
  ⟨fun x => match x with
    | 180 => 66
    | 181 => 104
    | 183 => 67
    | 184 => 105
    | 251 => 91
    | 252 => 92
    | 290 => 106
    | 324 => 109
    | n => n,
  fun x => match x with
    | 0 => 0
    | 3 => 3
    | 4 => 4
    | 5 => 5
    | 9 => 9
    | 20 => 20
    | 37 => 44
    | 75 => 114
    | 80 => 156
    | 91 => 110
    | 93 => 112
    | 130 => 141
    | 131 => 119
    | n => n,
  fun x => match x with
    | 14 => 2
    | n => n⟩
theorem buf180 : LaysM.n180 Tryd.prog bufRen :=
  { mixed := by kernel_rfl, f180 := Tryd.func66, f181 := Tryd.func104, f184 := Tryd.func105, f251 := Tryd.func91, f252 := Tryd.func92, f290 := Tryd.func106, f324 := Tryd.func109,
    t0 := Tryd.underlying0, a0 := Tryd.isAgg0, z0 := Tryd.sizeOf0, v0 := Tryd.zeroValue0,
    t3 := Tryd.underlying3, a3 := Tryd.isAgg3, z3 := Tryd.sizeOf3, v3 := Tryd.zeroValue3,
    t4 := Tryd.underlying4, a4 := Tryd.isAgg4, z4 := Tryd.sizeOf4, v4 := Tryd.zeroValue4,
    t20 := Tryd.underlying20, a20 := Tryd.isAgg20, z20 := Tryd.sizeOf20, v20 := Tryd.zeroValue20,
    t37 := Tryd.underlying44, a37 := Tryd.isAgg44, z37 := Tryd.sizeOf44, v37 := Tryd.zeroValue44,
    t75 := Tryd.underlying114, a75 := Tryd.isAgg114, z75 := Tryd.sizeOf114, v75 := Tryd.zeroValue114,
    t91 := Tryd.underlying110, a91 := Tryd.isAgg110, z91 := Tryd.sizeOf110, v91 := Tryd.zeroValue110,
    t93 := Tryd.underlying112, a93 := Tryd.isAgg112, z93 := Tryd.sizeOf112, v93 := Tryd.zeroValue112,
    t130 := Tryd.underlying141, a130 := Tryd.isAgg141, z130 := Tryd.sizeOf141, v130 := Tryd.zeroValue141,
    t131 := Tryd.underlying119, a131 := Tryd.isAgg119, z131 := Tryd.sizeOf119, v131 := Tryd.zeroValue119,
    t5 := Tryd.underlying5, a5 := Tryd.isAgg5, z5 := Tryd.sizeOf5, v5 := Tryd.zeroValue5,
    t9 := Tryd.underlying9, a9 := Tryd.isAgg9, z9 := Tryd.sizeOf9, v9 := Tryd.zeroValue9,
    t80 := Tryd.underlying156, a80 := Tryd.isAgg156, z80 := Tryd.sizeOf156, v80 := Tryd.zeroValue156,
    g14 := by kernel_rfl, m14 := by kernel_rfl, i0 := by kernel_rfl, i3 := by kernel_rfl, i4 := by kernel_rfl, i5 := by kernel_rfl, i9 := by kernel_rfl, i20 := by kernel_rfl, i37 := by kernel_rfl, i75 := by kernel_rfl, i80 := by kernel_rfl, i91 := by kernel_rfl, i93 := by kernel_rfl, i130 := by kernel_rfl, i131 := by kernel_rfl }
theorem buf183 : LaysM.n183 Tryd.prog bufRen :=
  { mixed := by kernel_rfl, f183 := Tryd.func67,
    t0 := Tryd.underlying0, a0 := Tryd.isAgg0, z0 := Tryd.sizeOf0, v0 := Tryd.zeroValue0,
    t3 := Tryd.underlying3, a3 := Tryd.isAgg3, z3 := Tryd.sizeOf3, v3 := Tryd.zeroValue3,
    t37 := Tryd.underlying44, a37 := Tryd.isAgg44, z37 := Tryd.sizeOf44, v37 := Tryd.zeroValue44,
    t93 := Tryd.underlying112, a93 := Tryd.isAgg112, z93 := Tryd.sizeOf112, v93 := Tryd.zeroValue112,
    t130 := Tryd.underlying141, a130 := Tryd.isAgg141, z130 := Tryd.sizeOf141, v130 := Tryd.zeroValue141,
    t5 := Tryd.underlying5, a5 := Tryd.isAgg5, z5 := Tryd.sizeOf5, v5 := Tryd.zeroValue5,
    t91 := Tryd.underlying110, a91 := Tryd.isAgg110, z91 := Tryd.sizeOf110, v91 := Tryd.zeroValue110,
    i0 := by kernel_rfl, i3 := by kernel_rfl, i5 := by kernel_rfl, i37 := by kernel_rfl, i91 := by kernel_rfl, i93 := by kernel_rfl, i130 := by kernel_rfl }
/-- A buffer that this call has made, and what it holds. -/
def Buf (B b : Nat) (xs : List (BitVec 8)) (w : World) : Prop := Lib.IsBuffer 112 5 B b (bv xs) w
theorem Buf.fresh (w : World) : Buf w.heap.size w.heap.size [] (w.alloc (.cells #[.slice none 0 0, .int .i64 0, .int .i8 0] 112)) := Lib.fresh_isBuffer _ _ w
theorem Buf.old {B b : Nat} {xs : List (BitVec 8)} {w w' : World} (h : Buf B b xs w) (hb : Aft w w') : Buf B b xs w' := by
  have hl := Lib.IsBuffer.lt h
  obtain ⟨hB, v, lr, h1, h2, h3⟩ := h
  exact ⟨hB, v, lr, (Below.block hb b hl).trans h1, ownsRow_below h2 (fun g hg => Below.block hb g (own_lt h2 hg).2), h3⟩
theorem bufBytes_any (B b : Nat) (xs : List (BitVec 8)) (w : World) (h : Buf B b xs w) :
    Calls Tryd.prog 67 #[.pointer (some ⟨b, 0, none⟩)] w (RetSl (bv xs).length fun v w' => w'.ownsRow B 5 1 v (bv xs).length (bv xs) ∧ Aft w w') :=
  (Any.Buffer_Bytes buf183 B b (bv xs) w h).mono fun e w' ⟨v, he, ho, n, hw⟩ => by
    obtain ⟨a, c, rfl⟩ := own_shape ho
    exact ⟨a, c, he, ho, by rw [hw]; exact ⟨rfl, rfl, rfl, Nat.le_refl _, fun _ _ => rfl⟩⟩
set_option maxRecDepth 100000 in
set_option maxHeartbeats 1000000 in
theorem bufWrite_nil (B b cap : Nat) (ao : Option Addr) (xs : List (BitVec 8)) (w : World) (h : Buf B b xs w) :
    Calls Tryd.prog 66 #[.pointer (some ⟨b, 0, none⟩), .slice ao 0 cap] w fun e w' => e = .returned (.tuple #[.int .i64 0, .nilIface]) ∧ Buf B b xs w' ∧ Below B w w' := by
  have h0 : Lib.IsBuffer 112 5 B b (bv xs) w := h
  have hs := h0.setLast 0
  obtain ⟨hB, v0, lr, hbk, -, -⟩ := h0
  have c2 : w.cell? ⟨b, 2, none⟩ = some (.int .i8 lr) := by rw [Lib.cell_of_heap hbk]; rfl
  have f2 : w.frozen? ⟨b, 2, none⟩ = false := Lib.frozen_of_heap hbk 2
  have HF := Lib.hid (show Below B w (w.setCell ⟨b, 2, none⟩ (.int .i8 0)) from (Below.refl B w).setCell (p := ⟨b, 2, none⟩) hB _)
  have HT := Lib.hid (Any.Buffer_tryGrow_own { buf180 with } B b 0 (bv xs) _ hs)
  have hcp := fun (d : Option Addr) (n c : Nat) (W : World) => run_copy_none (P := Tryd.prog) (ty := 3) W 44 44 5 d ao n c 0 cap Tryd.underlying44 (by kernel_rfl) (Nat.zero_min n)
  clear hs hbk h
  go_enter Tryd.func66, Tryd.ntmps66
  go_wp2_with fail
  refine HT.out.mono ?_
  rintro e W1 (⟨rfl, ys, hyl, hI, hbel, -, -⟩ | ⟨rfl, rfl, hnr⟩)
  · obtain rfl : ys = [] := List.eq_nil_of_length_eq_zero hyl
    rw [List.append_nil] at hI
    have HI := Lib.hid hI
    have HB := Lib.hid (HF.out.trans hbel)
    obtain ⟨-, v1, lr1, hb1, ho1, -⟩ := hI
    obtain ⟨a1, c1, rfl⟩ := own_shape ho1
    have d0 : W1.cell? ⟨b, 0, none⟩ = some (.slice a1 (bv xs).length c1) := by rw [Lib.cell_of_heap hb1]; rfl
    have hsl := (Rd.of_own ho1).sl
    obtain ⟨iB, hiB, hz1, hz2, -⟩ := info_parts info_byte
    have hcut := fun (wx : World) => cut_from (P := Tryd.prog) (ao := a1) (len := (bv xs).length) (cap := c1) (n := (bv xs).length) Tryd.underlying44 (Nat.le_refl _) wx hiB hz2
    have hcut2 : ∀ wx, (Instr.slice 44 (.slice a1 (bv xs).length c1) (some (.int .i64 ((bv xs).length : Int))) none none).run Tryd.prog wx = .ok (.slice (if c1 = (bv xs).length then a1 else a1.map (·.add (bv xs).length)) ((bv xs).length - (bv xs).length) (c1 - (bv xs).length)) wx := fun wx => by
      rw [← run_sliceAt_slice wx 44 _ _ _ _ Tryd.underlying44]; exact hcut wx
    clear hb1 ho1 hbel hcut hsl hz1 hz2 hiB
    go_wp2_with fail
    all_goals
      go_ret2
      exact ⟨rfl, HI.out, HB.out⟩
  · obtain ⟨_, _, _, _, hlt⟩ := hnr
    omega
theorem bufWrite_any (B b : Nat) (vp : Value) (xs ys : List (BitVec 8)) (w : World) (h : Buf B b xs w) (hBw : B ≤ w.heap.size) (hrd : Rd w vp (bv ys)) (hne : ∀ g, vp.ownBlock = some g → bv ys ≠ [] → g ≠ b) (hlim : xs.length + ys.length ≤ 140737488355328) :
    Calls Tryd.prog 66 #[.pointer (some ⟨b, 0, none⟩), vp] w fun e w' => e = .returned (.tuple #[.int .i64 ys.length, .nilIface]) ∧ Buf B b (xs ++ ys) w' ∧ Below B w w' := by
  obtain ⟨ao, cap, rfl, h1, h2, h3, h4⟩ := hrd
  cases ys with
  | nil => rw [List.append_nil]; exact bufWrite_nil B b cap ao xs w h
  | cons y ys =>
    cases ao with
    | none =>
      have := h3 rfl
      rw [bv_length, List.length_cons] at h1
      omega
    | some a =>
      refine (Any.Buffer_Write_any buf180 B b (bv xs) (bv (y :: ys)) a (bv (y :: ys)).length cap w h hBw (bv_one xs) rfl (hne a.block rfl (by simp [bv])) (h4 a rfl) (bv_one _) (by rw [bv_length, bv_length]; exact hlim)).mono fun e w' hh => ?_
      obtain ⟨he, hi, hb, -⟩ := hh
      refine ⟨by rw [he, bv_length], ?_, hb⟩
      unfold Buf
      rw [bv_append]
      exact hi
end Go.Proofs.YtdbhlajajdlmfaaDoor
/- wire.Text, and coterieref01.Text: texts written. -/
namespace Go.Proofs.YtdbhlajajdlmfaaDoor
open Go Go.RowKit
/-- A text of a list. -/
def txt (ts : List (List (BitVec 8))) (i : Nat) : List (BitVec 8) := ts.getD i []
def textsB (ts : List (List (BitVec 8))) : List (BitVec 8) := ts.flatMap fun t => beL 2 t.length ++ t
theorem textsB_succ (ts : List (List (BitVec 8))) (i : Nat) (h : i < ts.length) : textsB (ts.take (i + 1)) = textsB (ts.take i) ++ (beL 2 (txt ts i).length ++ txt ts i) := by
  unfold textsB txt
  rw [List.take_add_one, List.getElem?_eq_getElem h, List.flatMap_append, List.getD_eq_getElem?_getD, List.getElem?_eq_getElem h]
  simp
def textOk (ts : List (List (BitVec 8))) : Bool := ts.all fun t => decide (t.length ≤ 65535)
theorem textOk_true {ts : List (List (BitVec 8))} (h : ∀ j, j < ts.length → (txt ts j).length ≤ 65535) : textOk ts = true := by
  unfold textOk
  rw [List.all_eq_true]
  intro x hx
  obtain ⟨i, hi, rfl⟩ := List.mem_iff_getElem.1 hx
  have := h i hi
  simp only [txt, List.getD_eq_getElem?_getD, List.getElem?_eq_getElem hi, Option.getD_some] at this
  exact decide_eq_true this
theorem textOk_false {ts : List (List (BitVec 8))} {j : Nat} (hj : j < ts.length) (h : ¬ (txt ts j).length ≤ 65535) : textOk ts = false := by
  unfold textOk
  rw [List.all_eq_false]
  refine ⟨ts[j], List.getElem_mem hj, ?_⟩
  simp only [txt, List.getD_eq_getElem?_getD, List.getElem?_eq_getElem hj, Option.getD_some] at h
  simpa using h
theorem textsB_le (ts : List (List (BitVec 8))) : ∀ i, i ≤ ts.length → (∀ j, j < i → (txt ts j).length ≤ 65535) → (textsB (ts.take i)).length ≤ 65537 * i
  | 0, _, _ => by simp [textsB]
  | i + 1, hi, h => by
    rw [textsB_succ ts i hi, List.length_append, List.length_append, beL_length]
    have := textsB_le ts i (by omega) (fun j hj => h j (by omega))
    have := h i (by omega)
    omega
def textErr (ts : List (List (BitVec 8))) : Int := if textOk ts then 0 else 4
def textB (d : List (BitVec 8)) (ts : List (List (BitVec 8))) : List (BitVec 8) := if textOk ts then d ++ textsB ts else []
/-- What Text hands back. -/
def TextSays (d : List (BitVec 8)) (ts : List (List (BitVec 8))) (w : World) (e : Ending) (w' : World) : Prop :=
  ∃ ao cap, e = .returned (.tuple #[.slice ao (bv (textB d ts)).length cap, .int .i64 (textErr ts)]) ∧ w'.ownsRow w.heap.size 5 1 (.slice ao (bv (textB d ts)).length cap) (bv (textB d ts)).length (bv (textB d ts)) ∧ Below w.heap.size w w'
theorem TextSays.bad {d : List (BitVec 8)} {ts : List (List (BitVec 8))} {w w' : World} (h : textOk ts = false) (hb : Below w.heap.size w w') : TextSays d ts w (.returned (.tuple #[.slice none 0 0, .int .i64 4])) w' := by
  refine ⟨none, 0, ?_, ?_, hb⟩ <;> simp only [textB, textErr, h] <;> first | rfl | exact World.ownsRow_nil _ _ _ _
theorem TextSays.good {d : List (BitVec 8)} {ts : List (List (BitVec 8))} {w w' : World} {v : Value} (h : textOk ts = true) (ho : w'.ownsRow w.heap.size 5 1 v (bv (d ++ textsB ts)).length (bv (d ++ textsB ts))) (hb : Below w.heap.size w w') :
    TextSays d ts w (.returned (.tuple #[v, .int .i64 0])) w' := by
  have hB : textB d ts = d ++ textsB ts := by unfold textB; rw [if_pos h]
  obtain ⟨a, c, rfl⟩ := own_shape ho
  refine ⟨a, c, ?_, ?_, hb⟩
  · rw [hB]; unfold textErr; rw [if_pos h]
  · rw [hB]; exact ho
set_option maxRecDepth 100000 in
set_option maxHeartbeats 1000000 in
theorem text_any (vb vp : Value) (d : List (BitVec 8)) (ts : List (List (BitVec 8))) (w : World) (hb : Rd w vb (bv d)) (hp : RdAll w vp ts) (hd : d.length ≤ 1073741824) (hl : ts.length ≤ 16777216) :
    Calls Tryd.prog 39 #[vb, vp] w (TextSays d ts w) := by
  have HB := Lib.hid hb
  have HP := Lib.hid hp
  have HL := Lib.hid hl
  have HD := Lib.hid hd
  obtain ⟨ab, cb, rfl, -, -, -, -⟩ := hb
  obtain ⟨ap, cp, rfl, -⟩ := hp.shape
  have HF := Lib.hid (Aft.alloc w (.cells #[.slice none 0 0, .int .i64 0, .int .i8 0] 112))
  have HW1 := Lib.hid (bufWrite_any w.heap.size w.heap.size (.slice ab (bv d).length cb) [] d _ (Buf.fresh w) (by rw [World.size_alloc]; omega) (HB.out.grow HF.out) (fun g hg hx => by have := HB.out.lt hg hx; omega) (by simp; omega))
  clear hd hl hp
  go_enter Tryd.func39, Tryd.ntmps39
  go_wp2_with fail
  refine HW1.out.mono ?_
  rintro e w2 ⟨rfl, hbuf, hb2⟩
  rw [List.nil_append] at hbuf
  have HBuf := Lib.hid hbuf
  have HF2 := Lib.hid (show Below w.heap.size w w2 from Below.trans HF.out hb2)
  clear hbuf hb2
  go_wp2_with fail
  go_loopw [13] (fun v13 wr => ∃ i : Nat, i ≤ ts.length ∧ v13 = .int .i64 i ∧ Buf w.heap.size w.heap.size (d ++ textsB (ts.take i)) wr ∧ Below w.heap.size w wr ∧ ∀ j, j < i → (txt ts j).length ≤ 65535) (fun v _ => ts.length - (intOf v).toNat)
  case atStart => exact ⟨0, by omega, rfl, by simp only [textsB, List.take_zero, List.flatMap_nil, List.append_nil]; exact HBuf.out, HF2.out, fun j hj => by omega⟩
  case round =>
    obtain ⟨i, hi, rfl, hbuf, hbw, hall⟩ := hrel
    have HBf := Lib.hid hbuf
    have HBw := Lib.hid hbw
    have HAll := Lib.hid hall
    clear hbuf hbw hall
    by_cases hlt : i < ts.length
    · obtain ⟨g, o, cap', u, hvv, hcc, hu⟩ := (HP.out.below HBw.out).cell hlt
      cases hvv
      have hu1 : ∀ g, u.ownBlock = some g → bv (ts.getD i []) ≠ [] → g < w.heap.size := fun g hg hx => HP.out.elem_lt HBw.out hlt rfl hcc g hg hx
      have hlt' : (i : Int) < (ts.length : Nat) := by omega
      have hi63 : (i : Int) + 1 ≤ 9223372036854775807 := by have := HL.out; omega
      have HU := Lib.hid hu
      have HU1 := Lib.hid hu1
      have HLe := Lib.hid (textsB_le ts i hi HAll.out)
      have HTS := Lib.hid (textsB_succ ts i hlt)
      have HBad := Lib.hid (@textOk_false ts i hlt)
      have HGood := Lib.hid (fun (h : (txt ts i).length ≤ 65535) => (fun j (hj : j < i + 1) => by
        by_cases hj2 : j < i
        · exact HAll.out j hj2
        · obtain rfl : j = i := by omega
          exact h : ∀ j, j < i + 1 → (txt ts j).length ≤ 65535))
      obtain ⟨au, cu, rfl, -, -, -, -⟩ := hu
      clear hu1
      change Hid (Rd wr (.slice au (bv (txt ts i)).length cu) (bv (txt ts i))) at HU
      change Hid (∀ g, Value.ownBlock (.slice au (bv (txt ts i)).length cu) = some g → bv (txt ts i) ≠ [] → g < w.heap.size) at HU1
      have hbl := bv_length (txt ts i)
      change wr.cell? _ = some (.slice au (bv (txt ts i)).length cu) at hcc
      generalize txt ts i = x at *
      generalize textsB (ts.take i) = T at *
      rw [hbl] at hcc HU HU1
      clear hbl
      by_cases hlong : x.length ≤ 65535
      · have hlong' : ¬ (65535 : Int) < (x.length : Int) := by omega
        have HLo := Lib.hid hlong
        have HBl := Lib.hid (show (d ++ T).length ≤ 1101000000000 by have := HD.out; have := HLe.out; have := HL.out; rw [List.length_append]; omega)
        have HP2 := Lib.hid (put_any (.slice none 0 0) [] 2 x.length wr.heap.size wr (World.ownsRow_nil _ _ _ _) (Nat.le_refl _) (by omega) (by simp))
        have HSz := Lib.hid (Below.size HBw.out)
        have HBlt := Lib.hid (show w.heap.size < wr.heap.size from Lib.IsBuffer.lt HBf.out)
        clear hlong
        go_wp2_with fail
        refine HP2.out.mono ?_
        rintro e w3 ⟨a3, c3, rfl, ho3, hb3⟩
        rw [List.nil_append] at ho3
        have HB3 := Lib.hid (show Below w.heap.size w w3 from HBw.out.trans (Below.mono hb3 HSz.out))
        have HWr := Lib.hid (bufWrite_any w.heap.size w.heap.size (.slice a3 (bv (beL 2 x.length)).length c3) (d ++ T) (beL 2 x.length) w3 (HBf.out.old hb3) (Below.size HB3.out) (Rd.of_own ho3) (fun g hg hx => by have := (own_lt ho3 hg).1; have := HBlt.out; omega) (by rw [beL_length]; have := HBl.out; omega))
        have H33 := Lib.hid hb3
        clear ho3 hb3
        rw [List.nil_append]
        go_wp2_with fail
        refine HWr.out.mono ?_
        rintro e w4 ⟨rfl, hbuf4, hb4⟩
        have HB4 := Lib.hid (HB3.out.trans hb4)
        have hr4 := HU.out.below (Below.trans (Below.mono H33.out HSz.out) hb4) (fun g hg hx => HU1.out g hg hx)
        have HWx := Lib.hid (bufWrite_any w.heap.size w.heap.size (.slice au x.length cu) (d ++ T ++ beL 2 x.length) x w4 hbuf4 (Below.size HB4.out) hr4 (fun g hg hx => by have := HU1.out g hg hx; omega) (by rw [List.length_append, beL_length]; have := HBl.out; have := HLo.out; omega))
        have HTx := Lib.hid (show d ++ T ++ beL 2 x.length ++ x = d ++ (T ++ (beL 2 x.length ++ x)) by simp only [List.append_assoc])
        clear hbuf4 hb4 hr4
        go_wp2_with fail
        refine HWx.out.mono ?_
        rintro e w5 ⟨rfl, hbuf5, hb5⟩
        rw [HTx.out, ← HTS.out] at hbuf5
        have HBf5 := Lib.hid hbuf5
        have HB5 := Lib.hid (HB4.out.trans hb5)
        have HG := Lib.hid (HGood.out HLo.out)
        clear hbuf5 hb5
        go_wp2_with fail
        go_roundw
        case rel => exact ⟨i + 1, by omega, by go_num, HBf5.out, HB5.out, HG.out⟩
        case measure => simp [intOf]; omega
      · have hlong' : (65535 : Int) < (x.length : Int) := by omega
        have HQ := Lib.hid (HBad.out hlong)
        clear hlong
        go_wp2_with fail
        go_ret2
        exact TextSays.bad HQ.out HBw.out
    · obtain rfl : i = ts.length := by omega
      have hlt' : ¬ ((ts.length : Nat) : Int) < (ts.length : Nat) := by omega
      have HQ := Lib.hid (textOk_true HAll.out)
      have hbf := HBf.out
      rw [List.take_length] at hbf
      have HBy := Lib.hid (bufBytes_any w.heap.size w.heap.size (d ++ textsB ts) wr hbf)
      clear hbf
      go_wp2_with fail
      refine HBy.out.mono ?_
      rintro e w3 ⟨a3, c3, rfl, ho3, hb3⟩
      have HO3 := Lib.hid ho3
      have HB3 := Lib.hid (HBw.out.trans (Below.mono hb3 (Below.size HBw.out)))
      clear ho3 hb3
      go_wp2_with fail
      go_ret2
      exact TextSays.good HQ.out HO3.out HB3.out
set_option maxRecDepth 100000 in
set_option maxHeartbeats 1000000 in
theorem refText_any (vb vp : Value) (d : List (BitVec 8)) (ts : List (List (BitVec 8))) (w : World) (hb : Rd w vb (bv d)) (hp : RdAll w vp ts) (hd : d.length ≤ 1073741824) (hl : ts.length ≤ 16777216) :
    Calls Tryd.prog 29 #[vb, vp] w (TextSays d ts w) := by
  have HB := Lib.hid hb
  have HP := Lib.hid hp
  have HL := Lib.hid hl
  have HD := Lib.hid hd
  obtain ⟨ab, cb, rfl, -, -, -, -⟩ := hb
  obtain ⟨ap, cp, rfl, -⟩ := hp.shape
  clear hd hl hp
  go_enter Tryd.func29, Tryd.ntmps29
  go_wp2_with fail
  refine (copy_any _ d w HB.out (by have := HD.out; omega)).mono ?_
  rintro e w2 ⟨a2, c2, rfl, ho2, hb2⟩
  have HO2 := Lib.hid ho2
  have HF2 := Lib.hid (show Below w.heap.size w w2 from hb2)
  clear ho2 hb2
  go_wp2_with fail
  go_loopw [6, 13] (fun v6 v13 wr => ∃ i : Nat, i ≤ ts.length ∧ v13 = .int .i64 i ∧ wr.ownsRow w.heap.size 5 1 v6 (bv (d ++ textsB (ts.take i))).length (bv (d ++ textsB (ts.take i))) ∧ Below w.heap.size w wr ∧ ∀ j, j < i → (txt ts j).length ≤ 65535) (fun _ v _ => ts.length - (intOf v).toNat)
  case atStart => exact ⟨0, by omega, rfl, by simp only [textsB, List.take_zero, List.flatMap_nil, List.append_nil]; exact HO2.out, HF2.out, fun j hj => by omega⟩
  case round =>
    obtain ⟨i, hi, rfl, hown, hbw, hall⟩ := hrel
    have HOw := Lib.hid hown
    have HBw := Lib.hid hbw
    have HAll := Lib.hid hall
    obtain ⟨al, cl, rfl⟩ := own_shape hown
    clear hown hbw hall
    by_cases hlt : i < ts.length
    · obtain ⟨g, o, cap', u, hvv, hcc, hu⟩ := (HP.out.below HBw.out).cell hlt
      cases hvv
      have hlt' : (i : Int) < (ts.length : Nat) := by omega
      have hi63 : (i : Int) + 1 ≤ 9223372036854775807 := by have := HL.out; omega
      have hu1 : ∀ g, u.ownBlock = some g → bv (ts.getD i []) ≠ [] → g < w.heap.size := fun g hg hx => HP.out.elem_lt HBw.out hlt rfl hcc g hg hx
      have HU := Lib.hid hu
      have HU1 := Lib.hid hu1
      have HLe := Lib.hid (textsB_le ts i hi HAll.out)
      have HTS := Lib.hid (textsB_succ ts i hlt)
      have HBad := Lib.hid (@textOk_false ts i hlt)
      have HGood := Lib.hid (fun (h : (txt ts i).length ≤ 65535) => (fun j (hj : j < i + 1) => by
        by_cases hj2 : j < i
        · exact HAll.out j hj2
        · obtain rfl : j = i := by omega
          exact h : ∀ j, j < i + 1 → (txt ts j).length ≤ 65535))
      obtain ⟨au, cu, rfl, -, -, -, -⟩ := hu
      clear hu1
      change Hid (Rd wr (.slice au (bv (txt ts i)).length cu) (bv (txt ts i))) at HU
      change Hid (∀ g, Value.ownBlock (.slice au (bv (txt ts i)).length cu) = some g → bv (txt ts i) ≠ [] → g < w.heap.size) at HU1
      have hbl := bv_length (txt ts i)
      change wr.cell? _ = some (.slice au (bv (txt ts i)).length cu) at hcc
      generalize txt ts i = x at *
      generalize textsB (ts.take i) = T at *
      rw [hbl] at hcc HU HU1
      clear hbl
      by_cases hlong : x.length ≤ 65535
      · have hlong' : ¬ (65535 : Int) < (x.length : Int) := by omega
        have HLo := Lib.hid hlong
        have HBl := Lib.hid (show (bv (d ++ T)).length ≤ 1101000000000 by have := HD.out; have := HLe.out; have := HL.out; rw [bv_length, List.length_append]; omega)
        have HBy := Lib.hid (refBytes_any 2 x.length wr (by omega) (by omega))
        have HSz := Lib.hid (Below.size HBw.out)
        clear hlong
        go_wp2_with fail
        refine HBy.out.mono ?_
        rintro e w3 ⟨a3, c3, rfl, ho3, hb3⟩
        have HO3 := Lib.hid (ownsRow_below HOw.out (w' := w3) fun g hg => Below.block hb3 g (own_lt HOw.out hg).2)
        have HR3 := Lib.hid (Rd.of_own ho3)
        have HB3 := Lib.hid (show Below w.heap.size w w3 from HBw.out.trans (Below.mono hb3 HSz.out))
        have HU3 := Lib.hid (HU.out.grow hb3)
        have H2 := Lib.hid (show (bv (beL 2 x.length)).length = 2 by rw [bv_length, beL_length])
        have HXl := Lib.hid (bv_length x)
        have HTx := Lib.hid (show d ++ (T ++ (beL 2 x.length ++ x)) = (d ++ T) ++ beL 2 x.length ++ x by simp only [List.append_assoc])
        clear ho3 hb3
        go_wp2_with (first
          | (at_builtin; refine wpList_append_rd rfl _ _ 44 rfl w.heap.size 5 (.int .u8 0) 1 Tryd.underlying44 info_byte rfl (.slice al (bv (d ++ T)).length cl) (.slice a3 (bv (beL 2 x.length)).length c3) (bv (d ++ T)) (bv (beL 2 x.length)) rfl rfl HO3.out HR3.out (bv_one _) (by have := HBl.out; have := H2.out; omega) (by have := HBl.out; have := H2.out; omega) (Below.size HB3.out) ?_; intro v4 w4 k1 k2 k3; have HO4 := Lib.hid (show w4.ownsRow w.heap.size 5 1 v4 (bv ((d ++ T) ++ beL 2 x.length)).length (bv ((d ++ T) ++ beL 2 x.length)) by rw [bv_append _ (beL 2 x.length)]; exact k1); have h34 := (show Below w.heap.size w3 w4 from (Below.refl w.heap.size w3).grown k2 (Below.size HB3.out) (fun g hg => (own_lt HO3.out hg).1)); have HB4 := Lib.hid (HB3.out.trans h34); have HU4 := Lib.hid (HU3.out.below h34 (fun g hg hx => HU1.out g hg hx)); clear k1 k2 k3 h34)
          | (at_builtin; refine wpList_append_rd rfl _ _ 44 rfl w.heap.size 5 (.int .u8 0) 1 Tryd.underlying44 info_byte rfl v4 (.slice au x.length cu) (bv ((d ++ T) ++ beL 2 x.length)) (bv x) rfl rfl HO4.out HU4.out (bv_one _) (by have := HBl.out; have := H2.out; have := HXl.out; have := HLo.out; rw [bv_append, List.length_append]; omega) (by have := HBl.out; have := H2.out; have := HXl.out; have := HLo.out; rw [bv_append, List.length_append]; omega) (Below.size HB4.out) ?_; intro v5 w5 k1 k2 k3; have HO5 := Lib.hid (show w5.ownsRow w.heap.size 5 1 v5 (bv (d ++ textsB (ts.take (i + 1)))).length (bv (d ++ textsB (ts.take (i + 1)))) by rw [HTS.out, HTx.out, bv_append _ x]; exact k1); have HB5 := Lib.hid (HB4.out.grown k2 (Below.size HB4.out) (fun g hg => (own_lt HO4.out hg).1)); clear k1 k2 k3))
        have HG := Lib.hid (HGood.out HLo.out)
        go_roundw
        case rel => exact ⟨i + 1, by omega, by go_num, HO5.out, HB5.out, HG.out⟩
        case measure => simp [intOf]; omega
      · have hlong' : (65535 : Int) < (x.length : Int) := by omega
        have HQ := Lib.hid (HBad.out hlong)
        clear hlong
        go_wp2_with fail
        go_ret2
        exact TextSays.bad HQ.out HBw.out
    · obtain rfl : i = ts.length := by omega
      have hlt' : ¬ ((ts.length : Nat) : Int) < (ts.length : Nat) := by omega
      have HQ := Lib.hid (textOk_true HAll.out)
      rw [List.take_length] at HOw ⊢
      go_wp2_with fail
      go_ret2
      exact TextSays.good HQ.out HOw.out HBw.out
end Go.Proofs.YtdbhlajajdlmfaaDoor
/- coterielaw01.live: the chapter's examples hold. -/
namespace Go.Proofs.YtdbhlajajdlmfaaDoor
open Go Go.RowKit
end Go.Proofs.YtdbhlajajdlmfaaDoor
/- coterielaw01.WireOrder: it answers true. -/
namespace Go.Proofs.YtdbhlajajdlmfaaDoor
open Go Go.RowKit
end Go.Proofs.YtdbhlajajdlmfaaDoor
/- Numbers and texts read: wire.TakeNum, TakeText, Texts, End, and the document's. -/
namespace Go.Proofs.YtdbhlajajdlmfaaDoor
open Go Go.RowKit
/-- A number, of its bytes, the highest first. -/
def beN (l : List (BitVec 8)) : Nat := l.foldl (fun n c => n * 256 + c.toNat) 0
theorem beN_snoc (l : List (BitVec 8)) (c : BitVec 8) : beN (l ++ [c]) = beN l * 256 + c.toNat := by simp [beN]
theorem beN_lt : ∀ l : List (BitVec 8), beN l < 256 ^ l.length := by
  intro l
  generalize hn : l.length = n
  induction n generalizing l with
  | zero => rw [List.eq_nil_of_length_eq_zero hn]; decide
  | succ n ih =>
    obtain ⟨m, c, rfl⟩ : ∃ m c, l = m ++ [c] := ⟨l.dropLast, l.getLast (by intro h; simp [h] at hn), (List.dropLast_concat_getLast _).symm⟩
    have hm : m.length = n := by simpa using hn
    have := ih m hm
    have hc := c.isLt
    rw [beN_snoc, Nat.pow_succ]
    omega
/-- What TakeNum hands back: a number, the place behind it, and why not. -/
def takeNum (b : List (BitVec 8)) (p W : Int) : Nat × Int × Int :=
  if p < 0 ∨ (b.length : Int) < p ∨ W < 1 ∨ 8 < W then (0, 0, 1) else if (b.length : Int) - p < W then (0, 0, 2) else (beN ((b.drop p.toNat).take W.toNat), p + W, 0)
/-- A byte of those from a place on. -/
def byteFrom (b : List (BitVec 8)) (p i : Nat) : BitVec 8 := b.getD (p + i) 0
theorem take_from_succ (b : List (BitVec 8)) (p i : Nat) (h : p + i < b.length) : (b.drop p).take (i + 1) = (b.drop p).take i ++ [byteFrom b p i] := by
  rw [List.take_add_one]
  congr 1
  rw [List.getElem?_drop, List.getElem?_eq_getElem h]
  unfold byteFrom
  rw [List.getD_eq_getElem?_getD, List.getElem?_eq_getElem h]
  rfl
def tnV (x : Nat × Int × Int) : Value := .tuple #[.int .u64 ((x.1 : Nat) : Int), .int .i64 x.2.1, .int .i64 x.2.2]
theorem shl_or (n : Nat) (c : BitVec 8) (hn : n < 72057594037927936) : bits .or .u64 ((n : Int) * 256) (bn c) = ((n * 256 + c.toNat : Nat) : Int) := by
  have hc := c.isLt
  show IntKind.u64.wrap ((BitVec.ofInt 64 ((n : Int) * 256) ||| BitVec.ofInt 64 (bn c)).toNat : Int) = _
  have e1 : (BitVec.ofInt 64 ((n : Int) * 256)).toNat = n <<< 8 := by rw [BitVec.toNat_ofInt, Nat.shiftLeft_eq]; omega
  have e2 : (BitVec.ofInt 64 (bn c)).toNat = c.toNat := by unfold bn; rw [BitVec.toNat_ofInt]; omega
  rw [BitVec.toNat_or, e1, e2, ← Nat.shiftLeft_add_eq_or_of_lt hc, Nat.shiftLeft_eq, IntKind.wrap_u64]
  omega
set_option maxRecDepth 100000 in
theorem cut_lh {w : World} {ao : Option Addr} {len cap p n : Nat} {b : List (BitVec 8)} (h : Rd w (.slice ao len cap) (bv b)) (hj : p + n ≤ b.length) (l r : Int) (hl : l = ((p : Nat) : Int)) (hr : r = ((p + n : Nat) : Int)) :
    ∃ ax, (∀ wx, (Instr.slice 44 (.slice ao len cap) (some (.int .i64 l)) (some (.int .i64 r)) none).run Tryd.prog wx = .ok (.slice ax n (cap - p)) wx) ∧ Rd w (.slice ax n (cap - p)) (bv ((b.drop p).take n)) := by
  subst hl hr
  have hs := h.sl
  rw [bv_length] at hs
  have h1 := (h.from (n := p) (by rw [bv_length]; omega)).to (n := n) (by rw [List.length_drop, bv_length]; omega)
  rw [← bv_drop, ← bv_take] at h1
  refine ⟨_, fun wx => ?_, h1⟩
  obtain ⟨i0, hi, hz1, hz2, hz3⟩ := info_parts info_byte
  have hc : Tryd.prog.cellsOf 5 = 1 := by simp [Program.cellsOf, hi, hz2]
  rw [run_slice_lh wx 44 ao len cap Tryd.underlying44 .i64 .i64 ((p : Nat) : Int) ((p + n : Nat) : Int) (by omega) (by omega) (by omega)]
  rw [show Tryd.prog.elem 44 = 5 from rfl, run_sizeOf wx hi]
  simp only [Result.andThen, sliced, Int.toNat_natCast]
  rw [hc, Nat.mul_one, Nat.add_sub_cancel_left]
theorem sub_at (b : List (BitVec 8)) (p n i : Nat) (h : i < n) : ((b.drop p).take n).getD i 0 = byteFrom b p i := by
  unfold byteFrom
  rw [List.getD_eq_getElem?_getD, List.getElem?_take_of_lt h, List.getElem?_drop, List.getD_eq_getElem?_getD]
set_option maxRecDepth 100000 in
set_option maxHeartbeats 1000000 in
theorem takeNum_any (vb : Value) (b : List (BitVec 8)) (p W : Int) (w : World) (hb : Rd w vb (bv b)) (hl : b.length ≤ 1099511627776) :
    Calls Tryd.prog 83 #[vb, .int .i64 p, .int .i64 W] w fun e w' => e = .returned (tnV (takeNum b p W)) ∧ w' = w := by
  have HB := Lib.hid hb
  have HL := Lib.hid hl
  have hbl := bv_length b
  obtain ⟨ab, cb, rfl, -, -, -, -⟩ := hb
  rw [hbl] at HB ⊢
  clear hbl hl
  go_enter Tryd.func83, Tryd.ntmps83
  by_cases h1 : p < 0
  · have HE := Lib.hid (show takeNum b p W = (0, 0, 1) by unfold takeNum; rw [if_pos (.inl h1)])
    go_wp2_with fail
    go_ret3
    exact ⟨by rw [HE.out]; rfl, rfl⟩
  · by_cases h2 : (b.length : Int) < p
    · have HE := Lib.hid (show takeNum b p W = (0, 0, 1) by unfold takeNum; rw [if_pos (.inr (.inl h2))])
      go_wp2_with fail
      go_ret3
      exact ⟨by rw [HE.out]; rfl, rfl⟩
    · by_cases h3 : W < 1
      · have HE := Lib.hid (show takeNum b p W = (0, 0, 1) by unfold takeNum; rw [if_pos (.inr (.inr (.inl h3)))])
        go_wp2_with fail
        go_ret3
        exact ⟨by rw [HE.out]; rfl, rfl⟩
      · by_cases h4 : 8 < W
        · have HE := Lib.hid (show takeNum b p W = (0, 0, 1) by unfold takeNum; rw [if_pos (.inr (.inr (.inr h4)))])
          go_wp2_with fail
          go_ret3
          exact ⟨by rw [HE.out]; rfl, rfl⟩
        · have hn1 : ¬ (p < 0 ∨ (b.length : Int) < p ∨ W < 1 ∨ 8 < W) := by omega
          have hl2 := HL.out
          by_cases h5 : (b.length : Int) - p < W
          · have HE := Lib.hid (show takeNum b p W = (0, 0, 2) by unfold takeNum; rw [if_neg hn1, if_pos h5])
            clear hn1
            go_wp2_with fail
            go_ret3
            exact ⟨by rw [HE.out]; rfl, rfl⟩
          · have HE := Lib.hid (show takeNum b p W = (beN ((b.drop p.toNat).take W.toNat), p + W, 0) by unfold takeNum; rw [if_neg hn1, if_neg h5])
            clear hn1
            obtain ⟨q, rfl⟩ : ∃ q : Nat, p = (q : Int) := ⟨p.toNat, by omega⟩
            obtain ⟨U, rfl⟩ : ∃ U : Nat, W = (U : Int) := ⟨W.toNat, by omega⟩
            rw [Int.toNat_natCast, Int.toNat_natCast] at HE
            obtain ⟨ax, hcut, hrd⟩ := cut_lh HB.out (show q + U ≤ b.length by omega) (q : Int) ((q : Int) + (U : Int)) rfl (by omega)
            have HR := Lib.hid hrd
            have hsu : ((b.drop q).take U).length = U := by rw [List.length_take, List.length_drop]; omega
            have HSu := Lib.hid hsu
            clear hrd hsu
            go_wp2_with fail
            go_loopw [9, 43] (fun v9 v43 wr => ∃ i : Nat, i ≤ U ∧ v43 = .int .i64 i ∧ v9 = .int .u64 ((beN ((b.drop q).take i) : Nat) : Int) ∧ wr = w) (fun _ v _ => U - (intOf v).toNat)
            case atStart => exact ⟨0, by omega, rfl, rfl, rfl⟩
            case round =>
              obtain ⟨i, hi, rfl, rfl, rfl⟩ := hrel
              by_cases hlt : i < U
              · have hlt' : (i : Int) < (U : Int) := by omega
                obtain ⟨g, o, rfl, -, -⟩ := HR.out.some_of (by rw [bv_length, HSu.out]; omega)
                have hcell := HR.out.cell_at (i := i) (by rw [HSu.out]; exact hlt)
                rw [sub_at b q U i hlt] at hcell
                have hlt7 : ((b.drop q).take i).length ≤ 7 := by rw [List.length_take]; omega
                have hbe := Nat.lt_of_lt_of_le (beN_lt ((b.drop q).take i)) (Nat.pow_le_pow_right (by omega) hlt7)
                have hsn := beN_snoc ((b.drop q).take i) (byteFrom b q i)
                rw [← take_from_succ b q i (by omega)] at hsn
                have hso := shl_or (beN ((b.drop q).take i)) (byteFrom b q i) hbe
                have HSn := Lib.hid hsn
                clear hsn hlt7
                generalize beN ((b.drop q).take i) = N at *
                generalize byteFrom b q i = c at *
                have hN : N < 72057594037927936 := hbe
                have hcw : IntKind.u64.wrap (bn c) = bn c := by rw [IntKind.wrap_u64]; exact Int.emod_eq_of_lt (bn_nonneg c) (by have := bn_lt c; omega)
                clear hbe
                go_wp2_with fail
                go_roundw
                case rel => exact ⟨i + 1, by omega, by go_num, by rw [HSn.out]; rfl, trivial⟩
                case measure => simp [intOf]; omega
              · obtain rfl : i = U := by omega
                have hlt' : ¬ (i : Int) < (i : Int) := by omega
                go_wp2_with fail
                go_ret3
                exact ⟨by rw [HE.out]; rfl, rfl⟩
/-- A place is one. -/
def plc (p : Int) (n : Nat) : Bool := decide (0 ≤ p ∧ p ≤ (n : Int))
theorem place_any (ab : Option Addr) (n cb : Nat) (p : Int) (w : World) :
    Calls Tryd.prog 100 #[.slice ab n cb, .int .i64 p] w fun e w' => e = .returned (.bool (plc p n)) ∧ w' = w := by
  go_enter Tryd.func100, Tryd.ntmps100
  by_cases h1 : 0 ≤ p
  · by_cases h2 : p ≤ n
    · go_wp2_with fail
      go_ret
      exact ⟨by rw [show plc p n = true from decide_eq_true (by omega)]; rfl, rfl⟩
    · go_wp2_with fail
      go_ret
      exact ⟨by rw [show plc p n = false from decide_eq_false (by omega)]; rfl, rfl⟩
  · go_wp2_with fail
    go_ret
    exact ⟨by rw [show plc p n = false from decide_eq_false (by omega)]; rfl, rfl⟩
set_option maxRecDepth 100000 in
set_option maxHeartbeats 1000000 in
theorem refTakeNum_any (vb : Value) (b : List (BitVec 8)) (p W : Int) (w : World) (hb : Rd w vb (bv b)) (hl : b.length ≤ 1099511627776) :
    Calls Tryd.prog 85 #[vb, .int .i64 p, .int .i64 W] w fun e w' => e = .returned (tnV (takeNum b p W)) ∧ w' = w := by
  have HB := Lib.hid hb
  have HL := Lib.hid hl
  have hbl := bv_length b
  obtain ⟨ab, cb, rfl, -, -, -, -⟩ := hb
  rw [hbl] at HB ⊢
  clear hbl hl
  go_enter Tryd.func85, Tryd.ntmps85
  go_wp2_with fail
  refine (place_any ab b.length cb p w).mono ?_
  rintro e w' ⟨rfl, rfl⟩
  by_cases h1 : 0 ≤ p ∧ p ≤ b.length
  · rw [show plc p b.length = true from decide_eq_true h1]
    by_cases h3 : W < 1
    · have HE := Lib.hid (show takeNum b p W = (0, 0, 1) by unfold takeNum; rw [if_pos (.inr (.inr (.inl h3)))])
      go_wp2_with fail
      go_ret3
      exact ⟨by rw [HE.out]; rfl, rfl⟩
    · by_cases h4 : 8 < W
      · have HE := Lib.hid (show takeNum b p W = (0, 0, 1) by unfold takeNum; rw [if_pos (.inr (.inr (.inr h4)))])
        go_wp2_with fail
        go_ret3
        exact ⟨by rw [HE.out]; rfl, rfl⟩
      · have hn1 : ¬ (p < 0 ∨ (b.length : Int) < p ∨ W < 1 ∨ 8 < W) := by omega
        have hl2 := HL.out
        by_cases h5 : (b.length : Int) - p < W
        · have HE := Lib.hid (show takeNum b p W = (0, 0, 2) by unfold takeNum; rw [if_neg hn1, if_pos h5])
          clear hn1
          go_wp2_with fail
          go_ret3
          exact ⟨by rw [HE.out]; rfl, rfl⟩
        · have HE := Lib.hid (show takeNum b p W = (beN ((b.drop p.toNat).take W.toNat), p + W, 0) by unfold takeNum; rw [if_neg hn1, if_neg h5])
          clear hn1
          obtain ⟨h1a, h1b⟩ := h1
          obtain ⟨q, rfl⟩ : ∃ q : Nat, p = (q : Int) := ⟨p.toNat, by omega⟩
          obtain ⟨U, rfl⟩ : ∃ U : Nat, W = (U : Int) := ⟨W.toNat, by omega⟩
          rw [Int.toNat_natCast, Int.toNat_natCast] at HE
          go_wp2_with fail
          go_loopw [9, 30] (fun v9 v30 wr => ∃ i : Nat, i ≤ U ∧ v30 = .int .i64 i ∧ v9 = .int .u64 ((beN ((b.drop q).take i) : Nat) : Int) ∧ wr = w') (fun _ v _ => U - (intOf v).toNat)
          case atStart => exact ⟨0, by omega, rfl, rfl, rfl⟩
          case round =>
            obtain ⟨i, hi, rfl, rfl, rfl⟩ := hrel
            by_cases hlt : i < U
            · have hlt' : (i : Int) < (U : Int) := by omega
              obtain ⟨g, o, rfl, -, -⟩ := HB.out.some_of (by rw [bv_length]; omega)
              have hcell := HB.out.cell_at (i := q + i) (by omega)
              have hcell2 : wr.cell? ⟨g, o + (q + i), none⟩ = some (.int .u8 (bn (byteFrom b q i))) := hcell
              clear hcell
              have hlt7 : ((b.drop q).take i).length ≤ 7 := by rw [List.length_take]; omega
              have hbe := Nat.lt_of_lt_of_le (beN_lt ((b.drop q).take i)) (Nat.pow_le_pow_right (by omega) hlt7)
              have hsn := beN_snoc ((b.drop q).take i) (byteFrom b q i)
              rw [← take_from_succ b q i (by omega)] at hsn
              have HSn := Lib.hid hsn
              have hqi : q + i < b.length := by omega
              clear hsn hlt7
              generalize beN ((b.drop q).take i) = N at *
              generalize byteFrom b q i = c at *
              have hN : N < 72057594037927936 := hbe
              have hcw : IntKind.u64.wrap (bn c) = bn c := by rw [IntKind.wrap_u64]; exact Int.emod_eq_of_lt (bn_nonneg c) (by have := bn_lt c; omega)
              have hc0 := bn_nonneg c
              have hc1 := bn_lt c
              clear hbe
              go_wp2_with fail
              go_roundw
              case rel => exact ⟨i + 1, by omega, by go_num, by rw [HSn.out]; rfl, trivial⟩
              case measure => simp [intOf]; omega
            · obtain rfl : i = U := by omega
              have hlt' : ¬ (i : Int) < (i : Int) := by omega
              go_wp2_with fail
              go_ret3
              exact ⟨by rw [HE.out]; rfl, rfl⟩
  · rw [show plc p b.length = false from decide_eq_false h1]
    have HE := Lib.hid (show takeNum b p W = (0, 0, 1) by unfold takeNum; rw [if_pos (by omega)])
    go_wp2_with fail
    go_ret3
    exact ⟨by rw [HE.out]; rfl, rfl⟩
end Go.Proofs.YtdbhlajajdlmfaaDoor
/- Texts read: wire.TakeText, Texts, End, and the document's; and coterieref01.SameAll. -/
namespace Go.Proofs.YtdbhlajajdlmfaaDoor
open Go Go.RowKit
/-- What TakeText hands back, as values. -/
def TTSays (x : List (BitVec 8) × Int × Int) (w : World) (e : Ending) (w' : World) : Prop :=
  ∃ ao cap, e = .returned (.tuple #[.slice ao (bv x.1).length cap, .int .i64 x.2.1, .int .i64 x.2.2]) ∧ w'.ownsRow w.heap.size 5 1 (.slice ao (bv x.1).length cap) (bv x.1).length (bv x.1) ∧ Below w.heap.size w w'
theorem TTSays.some {x : List (BitVec 8) × Int × Int} {t : List (BitVec 8)} {q e : Int} {ao : Option Addr} {n cap : Nat} {w w' : World} (h : x = (t, q, e)) (hn : n = (bv t).length) (ho : w'.ownsRow w.heap.size 5 1 (.slice ao (bv t).length cap) (bv t).length (bv t)) (hb : Below w.heap.size w w') :
    TTSays x w (.returned (.tuple #[.slice ao n cap, .int .i64 q, .int .i64 e])) w' := by
  subst h hn
  exact ⟨_, _, rfl, ho, hb⟩
/-- Texts, each a row of its own; the slice of them too. -/
def OwnT (B : Nat) (v : Value) (l : List (List (BitVec 8))) (w : World) : Prop :=
  ∃ vs, w.ownsRow B 44 1 v vs.length vs ∧ vs.length = l.length ∧ ∀ j u, vs[j]? = some u → w.ownsRow B 5 1 u (bv (txt l j)).length (bv (txt l j))
theorem own_ne {w : World} {B1 B2 e1 e2 n1 n2 : Nat} {v1 v2 : Value} {x1 x2 : List Value} (h1 : w.ownsRow B1 e1 1 v1 n1 x1) (h2 : w.ownsRow B2 e2 1 v2 n2 x2) (he : e1 ≠ e2) : v1.ownBlock = none ∨ v1.ownBlock ≠ v2.ownBlock := by
  rcases h1.2 with ⟨rfl, -⟩ | ⟨g1, c1, k1, rfl, -, q1, -⟩
  · exact .inl rfl
  · refine .inr ?_
    rcases h2.2 with ⟨rfl, -⟩ | ⟨g2, c2, k2, rfl, -, q2, -⟩
    · simp [Value.ownBlock]
    · simp only [Value.ownBlock, ne_eq, Option.some.injEq]
      intro h
      subst h
      rw [q1] at q2
      simp only [Option.some.injEq, Obj.cells.injEq] at q2
      exact he q2.2.1
theorem OwnT.below {B : Nat} {v : Value} {l : List (List (BitVec 8))} {w w' : World} (h : OwnT B v l w) (hb : Aft w w') : OwnT B v l w' := by
  obtain ⟨vs, h1, h2, h3⟩ := h
  exact ⟨vs, ownsRow_below h1 (fun g hg => Below.block hb g (own_lt h1 hg).2), h2, fun j u hu => ownsRow_below (h3 j u hu) (fun g hg => Below.block hb g (own_lt (h3 j u hu) hg).2)⟩
theorem OwnT.all {B : Nat} {v : Value} {l : List (List (BitVec 8))} {w : World} (h : OwnT B v l w) : RdAll w v l := by
  obtain ⟨vs, h1, h2, h3⟩ := h
  exact ⟨vs, Rd.of_own h1, h2, fun i u hu => Rd.of_own (h3 i u hu)⟩
theorem OwnT.nil (B : Nat) (w : World) : OwnT B (.slice none 0 0) [] w := ⟨[], World.ownsRow_nil _ _ _ _, rfl, fun j u hu => by simp at hu⟩
theorem OwnT.shape {B : Nat} {v : Value} {l : List (List (BitVec 8))} {w : World} (h : OwnT B v l w) : ∃ a c, v = .slice a l.length c := by
  obtain ⟨vs, h1, h2, -⟩ := h
  obtain ⟨a, c, rfl⟩ := own_shape h1
  exact ⟨a, c, by rw [h2]⟩
theorem txt_snoc (l : List (List (BitVec 8))) (t : List (BitVec 8)) (j : Nat) : txt (l ++ [t]) j = if j < l.length then txt l j else if j = l.length then t else [] := by
  unfold txt
  rw [List.getD_eq_getElem?_getD, List.getD_eq_getElem?_getD]
  by_cases h : j < l.length
  · rw [if_pos h, List.getElem?_append_left h]
  · rw [if_neg h, List.getElem?_append_right (by omega)]
    by_cases h2 : j = l.length
    · rw [if_pos h2, h2, Nat.sub_self]; rfl
    · rw [if_neg h2, List.getElem?_eq_none (by simp; omega)]; rfl
theorem OwnT.snoc {B : Nat} {v v' u : Value} {l : List (List (BitVec 8))} {t : List (BitVec 8)} {vs : List Value} {w w' : World} (h1 : w.ownsRow B 44 1 v vs.length vs) (h2 : vs.length = l.length) (h3 : ∀ j u, vs[j]? = some u → w.ownsRow B 5 1 u (bv (txt l j)).length (bv (txt l j)))
    (hu : w.ownsRow B 5 1 u (bv t).length (bv t)) (hn : w'.ownsRow B 44 1 v' (vs ++ [u]).length (vs ++ [u])) (hg : w.grownBy w' v.ownBlock) : OwnT B v' (l ++ [t]) w' := by
  have hne : (5 : Nat) ≠ 44 := by decide
  refine ⟨vs ++ [u], hn, by simp [h2], fun j x hx => ?_⟩
  rw [txt_snoc]
  by_cases hj : j < vs.length
  · rw [List.getElem?_append_left hj] at hx
    rw [if_pos (by omega)]
    exact (h3 j x hx).kept hg (own_ne (h3 j x hx) h1 hne)
  · rw [List.getElem?_append_right (by omega)] at hx
    have hj2 : j = vs.length := by
      have := (List.getElem?_eq_some_iff.1 hx).1
      simp at this
      omega
    subst hj2
    rw [Nat.sub_self] at hx
    cases hx
    rw [if_neg (by omega), if_pos h2]
    exact hu.kept hg (own_ne hu h1 hne)
end Go.Proofs.YtdbhlajajdlmfaaDoor
/- wire.Texts, End, the document's, and coterieref01.SameAll. -/
namespace Go.Proofs.YtdbhlajajdlmfaaDoor
open Go Go.RowKit
theorem OwnT.one {B : Nat} {l : List (List (BitVec 8))} {w : World} {vs : List Value} (h : ∀ j u, vs[j]? = some u → w.ownsRow B 5 1 u (bv (txt l j)).length (bv (txt l j))) : ∀ u ∈ vs, u.oneCell' = true := by
  intro u hu
  obtain ⟨i, hi⟩ := List.getElem?_of_mem hu
  obtain ⟨a, c, rfl⟩ := own_shape (h i u hi)
  rfl
end Go.Proofs.YtdbhlajajdlmfaaDoor
/- coterielaw01.WireReads: it answers true. -/
namespace Go.Proofs.YtdbhlajajdlmfaaDoor
open Go Go.RowKit
end Go.Proofs.YtdbhlajajdlmfaaDoor
/- coterieref03.Key, and coterieref03.Expand; mac.Expand of a number that may not be. -/
namespace Go.Proofs.YtdbhlajajdlmfaaDoor
open Go Go.RowKit
/-- So many bytes of a key. -/
def okm (k info : List (BitVec 8)) (n : Nat) : List (BitVec 8) := (expOut K0 k info n).take n
theorem expT_len (k info : List (BitVec 8)) (m : Nat) : (expT K0 k info (m + 1)).length = 32 := by rw [expT, macOf_length]
/-- The last bytes, as a slice: none, or a key's of its own. -/
def LastIs (B : Nat) (k info : List (BitVec 8)) (m : Nat) (v : Value) (w : World) : Prop :=
  (m = 0 ∧ v = .slice none 0 0) ∨ (0 < m ∧ ∃ g, v = .slice (some ⟨g, 0, none⟩) 32 32 ∧ B ≤ g ∧ w.heap[g]? = some (.cells (bv (expT K0 k info m)).toArray 30 (0, 0)))
theorem LastIs.rd {B : Nat} {k info : List (BitVec 8)} {m : Nat} {v : Value} {w : World} (h : LastIs B k info m v w) : Rd w v (bv (expT K0 k info m)) := by
  rcases h with ⟨rfl, rfl⟩ | ⟨hm, g, rfl, -, hg⟩
  · exact Rd.nil _
  · obtain ⟨m, rfl⟩ : ∃ j, m = j + 1 := ⟨m - 1, by omega⟩
    exact Rd.of_key hg (expT_len k info m)
set_option maxRecDepth 100000 in
theorem run_cutTo' {ao : Option Addr} {len cap n : Nat} (h : n ≤ cap) (wx : World) : (Instr.slice 44 (.slice ao len cap) none (some (.int .i64 (n : Int))) none).run Tryd.prog wx = .ok (.slice ao n cap) wx := by
  obtain ⟨iB, hiB, -⟩ := info_parts info_byte
  have := cut_to (P := Tryd.prog) (ao := ao) (len := len) (cap := cap) (n := n) Tryd.underlying44 h wx hiB
  rw [run_sliceAt_slice wx 44 _ _ _ _ Tryd.underlying44] at this
  exact this
end Go.Proofs.YtdbhlajajdlmfaaDoor
/- mac.Derive, and coterieref03.Derive: a key of a key. -/
namespace Go.Proofs.YtdbhlajajdlmfaaDoor
open Go Go.RowKit
/-- A string's bytes. -/
def sb (s : ByteArray) : List (BitVec 8) := s.data.toList.map UInt8.toBitVec
def cot : List (BitVec 8) := [99, 111, 116, 101, 114, 105, 101]
/-- The texts that a key of a key hangs on. -/
def drvT (L : List (BitVec 8)) (ctx : List (List (BitVec 8))) : List (List (BitVec 8)) := cot :: L :: ctx
def drvKey (k L : List (BitVec 8)) (ctx : List (List (BitVec 8))) : List (BitVec 8) := if textOk (drvT L ctx) then okm k (textsB (drvT L ctx)) 32 else List.replicate 32 0
def DrvSays (k L : List (BitVec 8)) (ctx : List (List (BitVec 8))) (w : World) (e : Ending) (w' : World) : Prop :=
  e = .returned (.tuple #[.agg (bv (drvKey k L ctx)).toArray, .int .i64 (textErr (drvT L ctx))]) ∧ Below w.heap.size w w'
theorem DrvSays.bad {k L : List (BitVec 8)} {ctx : List (List (BitVec 8))} {w w' : World} (h : textOk (drvT L ctx) = false) (hb : Below w.heap.size w w') : DrvSays k L ctx w (.returned (.tuple #[.agg key0, .int .i64 4])) w' := by
  refine ⟨?_, hb⟩
  unfold drvKey textErr
  rw [h, ← key0_bv]
  rfl
theorem DrvSays.good {k L : List (BitVec 8)} {ctx : List (List (BitVec 8))} {X : List (BitVec 8)} {w w' : World} (h : textOk (drvT L ctx) = true) (hX : okm k (textsB (drvT L ctx)) 32 = X) (hb : Below w.heap.size w w') : DrvSays k L ctx w (.returned (.tuple #[.agg (bv X).toArray, .int .i64 0])) w' := by
  refine ⟨?_, hb⟩
  unfold drvKey textErr
  rw [if_pos h, if_pos h, hX]
theorem key_info {X : List (BitVec 8)} (hX : X.length = 32) : (Tryd.prog.info? 30).map (·.size) = some (bv X).toArray.size := by rw [List.size_toArray, bv_length, hX]; kernel_rfl
theorem run_loadVar_key (w : World) (g o n cap : Nat) (X : List (BitVec 8)) (hr : Rd w (.slice (some ⟨g, o, none⟩) n cap) (bv X)) (hX : X.length = 32) :
    (loadVar 30 ⟨g, o, none⟩).run Tryd.prog w = .ok (.agg (bv X).toArray) w := by
  obtain ⟨ao', cap', hv, h1, h2, h3, h4⟩ := hr
  cases hv
  have hl : (loadCells ⟨g, o, none⟩ (bv X).length).run Tryd.prog w = .ok (bv X).toArray w :=
    run_loadCells_list (P := Tryd.prog) w ⟨g, o, none⟩ (bv X) (fun j v hj => h4 _ rfl j v hj)
  obtain ⟨i, hq, hs⟩ := Option.map_eq_some_iff.1 (key_info hX)
  have hagg : (isAgg 30).run Tryd.prog w = .ok true w := by
    unfold isAgg
    rw [Sem.run_bind, run_underlying Tryd.underlying30 w]
    rfl
  rw [List.size_toArray] at hs
  simp [loadVar, Sem.run_bind, hagg, sizeOf, typeInfo, hq, hs, hl]
theorem wpList_load_rdkey {ops : Array Oper} {rest : List Oper} {o : Oper} {a : Act} {w : World} {Q : Exit → Act → World → Prop} (hgd : o.guard = none) (x : Operand) (ho : o.op = .load 30 x)
    (g q n cap : Nat) (X : List (BitVec 8)) (hx : a.eval x = .pointer (some ⟨g, q, none⟩)) (hr : Rd w (.slice (some ⟨g, q, none⟩) n cap) (bv X)) (hX : X.length = 32)
    (h : wpList Tryd.prog ops Q rest (a.put o.dst (.agg (bv X).toArray)) w) : wpList Tryd.prog ops Q (o :: rest) a w :=
  wpList_plain hgd fun K hK => by
    unfold Oper.wp execOp
    simp only [ho, hx, Instr.loadAt, Instr.sureAddr, Sem.run_bind, Sem.run_pure, Result.andThen_ok, run_loadVar_key w g q n cap X hr hX]
    exact hK _ _ h
theorem run_arrayAt_key (w : World) (ad : Addr) (cap : Nat) : (Instr.arrayAt 30 (.slice (some ad) 32 cap)).run Tryd.prog w = .ok (.pointer (some ad)) w := by
  simp [Instr.arrayAt, run_underlying Tryd.underlying30]
end Go.Proofs.YtdbhlajajdlmfaaDoor
/- Blocks that hold a struct with keys in it: a part reads as the key; a store of the whole; two results in blocks. -/
namespace Go.Proofs.YtdbhlajajdlmfaaDoor
open Go Go.RowKit
theorem Rd.part {w : World} {g t : Nat} {fr : Nat × Nat} {L : List Value} (pre post : List Value) (X : List (BitVec 8)) (n : Nat) (h : w.heap[g]? = some (.cells L.toArray t fr)) (hn : pre.length = n) (hX : X.length = 32) (hL : L = pre ++ (bv X ++ post)) :
    Rd w (.slice (some ⟨g, n, none⟩) 32 32) (bv X) := by
  refine ⟨some ⟨g, n, none⟩, 32, by rw [bv_length, hX], by rw [bv_length]; omega, by omega, (fun h => by cases h), fun ad ha j u hu => ?_⟩
  cases ha
  rw [Addr.add_lit]
  subst hL hn
  simp only [World.cell?, h, List.getElem?_toArray]
  have hj := (List.getElem?_eq_some_iff.1 hu).1
  rw [List.getElem?_append_right (by omega), Nat.add_sub_cancel_left, List.getElem?_append_left hj]
  exact hu
theorem cell_part {w : World} {g t : Nat} {fr : Nat × Nat} {L : List Value} {n : Nat} {u : Value} (h : w.heap[g]? = some (.cells L.toArray t fr)) (hu : L[n]? = some u) : w.cell? ⟨g, n, none⟩ = some u := by
  simp only [World.cell?, h, List.getElem?_toArray]
  exact hu
/-- A block's cell is written. -/
theorem block_setCell {w : World} {g t : Nat} {fr : Nat × Nat} {L : List Value} {n : Nat} (h : w.heap[g]? = some (.cells L.toArray t fr)) (u : Value) : (w.setCell ⟨g, n, none⟩ u).heap[g]? = some (.cells (L.set n u).toArray t fr) := by
  rw [Lib.heap_setCell_same h u]
  simp
theorem key_of_len {X : List (BitVec 8)} (hX : X.length = 32) : X = (List.range 32).map fun i => X.getD i 0 := by
  apply List.ext_getElem (by simp [hX])
  intro i h1 h2
  simp [List.getElem?_eq_getElem h1]
theorem bv_of_len {X : List (BitVec 8)} (hX : X.length = 32) : bv X = (List.range 32).map fun i => .int .u8 (bn (X.getD i 0)) := by
  conv => lhs; rw [key_of_len hX]
  simp [bv]
/-- A store of a whole struct, or array, into a block. -/
theorem wpList_store_rowZ {P : Program} {ops : Array Oper} {rest : List Oper} {o : Oper} {a : Act} {w : World} {Q : Exit → Act → World → Prop} (hgd : o.guard = none) (ty : TypeId) (x y : Operand) (ho : o.op = .store ty x y)
    (g : Nat) (cells : Array Value) (hx : a.eval x = .pointer (some ⟨g, 0, none⟩)) (hy : a.eval y = .agg cells)
    (t : TypeId) (old : Array Value) (hg : w.heap[g]? = some (.cells old t (0, 0))) (hi : (P.info? ty).map (·.size) = some cells.size)
    (hold : old.size = cells.size) (h1 : cells.all (·.oneCell') = true)
    (h : ∀ w', Hid (w'.heap[g]? = some (.cells cells t (0, 0))) → Hid (∀ k, k ≠ g → w'.heap[k]? = w.heap[k]?) → (∀ k w0, k ≤ g → Below k w0 w → Below k w0 w') → wpList P ops Q rest (a.put o.dst undef) w') : wpList P ops Q (o :: rest) a w :=
  wpList_store_row hgd ty x y ho g cells hx hy t old hg hi hold h1 (h _ (show _ = _ from setRow_heap _ _ _ _ _ _ hg) (show _ from fun k hk => setRow_other w g k _ hk) fun _ _ hk hb => below_setRow hb hk _)
theorem all_one {L : List Value} (h : ∀ u ∈ L, u.oneCell' = true) : L.toArray.all (·.oneCell') = true := Array.all_eq_true_iff_forall_mem.2 fun u hu => h u (by simpa using hu)
theorem wpList_store_keyZ {ops : Array Oper} {rest : List Oper} {o : Oper} {a : Act} {w : World} {Q : Exit → Act → World → Prop} (hgd : o.guard = none) (x y : Operand) (ho : o.op = .store 30 x y)
    (g : Nat) (X : List (BitVec 8)) (hX : X.length = 32) (hx : a.eval x = .pointer (some ⟨g, 0, none⟩)) (hy : a.eval y = .agg (bv X).toArray) (old : Array Value) (hg : w.heap[g]? = some (.cells old 30 (0, 0))) (hold : old.size = 32)
    (h : ∀ w', Hid (w'.heap[g]? = some (.cells (bv X).toArray 30 (0, 0))) → Hid (∀ k, k ≠ g → w'.heap[k]? = w.heap[k]?) → (∀ k w0, k ≤ g → Below k w0 w → Below k w0 w') → wpList Tryd.prog ops Q rest (a.put o.dst undef) w') : wpList Tryd.prog ops Q (o :: rest) a w :=
  wpList_store_rowZ hgd _ x y ho g (bv X).toArray hx hy _ old hg (key_info hX) (by rw [hold, List.size_toArray, bv_length, hX]) (all_one (bv_one X)) h
theorem wpList_store_keyZ0 {ops : Array Oper} {rest : List Oper} {o : Oper} {a : Act} {w : World} {Q : Exit → Act → World → Prop} (hgd : o.guard = none) (x y : Operand) (ho : o.op = .store 30 x y)
    (g : Nat) (hx : a.eval x = .pointer (some ⟨g, 0, none⟩)) (hy : a.eval y = .agg key0) (old : Array Value) (hg : w.heap[g]? = some (.cells old 30 (0, 0))) (hold : old.size = 32)
    (h : ∀ w', Hid (w'.heap[g]? = some (.cells (bv (List.replicate 32 0)).toArray 30 (0, 0))) → Hid (∀ k, k ≠ g → w'.heap[k]? = w.heap[k]?) → (∀ k w0, k ≤ g → Below k w0 w → Below k w0 w') → wpList Tryd.prog ops Q rest (a.put o.dst undef) w') : wpList Tryd.prog ops Q (o :: rest) a w :=
  wpList_store_keyZ hgd x y ho g (List.replicate 32 0) List.length_replicate hx (hy.trans (by rw [key0_bv])) old hg hold h
/-- A new variable: the world behind it stays a letter. -/
theorem wpList_allocO {P : Program} {ops : Array Oper} {rest : List Oper} {o : Oper} {a : Act} {w : World} {Q : Exit → Act → World → Prop} (hgd : o.guard = none) (ty : TypeId) (ho : o.op = .alloc ty) (obj : Obj)
    (hv : ∀ w1, (Instr.alloc ty true (.tuple #[])).run P w1 = .ok (.pointer (some ⟨w1.heap.size, 0, none⟩)) (w1.alloc obj))
    (h : ∀ w', Aft w w' → Hid (w'.heap[w.heap.size]? = some obj) → w'.heap.size = w.heap.size + 1 → wpList P ops Q rest (a.put o.dst (.pointer (some ⟨w.heap.size, 0, none⟩))) w') : wpList P ops Q (o :: rest) a w :=
  wpList_plain hgd fun K hK => by
    unfold Oper.wp execOp
    simp only [ho, Sem.run_bind, hv, Result.andThen_ok, Sem.run_pure]
    exact hK _ _ (h _ (Aft.alloc w obj) (heap_alloc_new w obj) (World.size_alloc w obj))
theorem wpList_boxO {P : Program} {ops : Array Oper} {rest : List Oper} {o : Oper} {a : Act} {w : World} {Q : Exit → Act → World → Prop} (hgd : o.guard = none) (ty : TypeId) (x : Operand) (ho : o.op = .box ty x) (v : Value) (hx : a.eval x = v) (obj : Obj)
    (hv : ∀ w1, (Instr.box ty v).run P w1 = .ok (.pointer (some ⟨w1.heap.size, 0, none⟩)) (w1.alloc obj))
    (h : ∀ w', Aft w w' → Hid (w'.heap[w.heap.size]? = some obj) → w'.heap.size = w.heap.size + 1 → wpList P ops Q rest (a.put o.dst (.pointer (some ⟨w.heap.size, 0, none⟩))) w') : wpList P ops Q (o :: rest) a w :=
  wpList_plain hgd fun K hK => by
    unfold Oper.wp execOp
    simp only [ho, hx, Sem.run_bind, hv, Result.andThen_ok, Sem.run_pure]
    exact hK _ _ (h _ (Aft.alloc w obj) (heap_alloc_new w obj) (World.size_alloc w obj))
theorem below_set1 {k g n : Nat} {w0 w : World} (h : Below k w0 w) (hk : k ≤ g) (u : Value) : Below k w0 (w.setCell ⟨g, n, none⟩ u) :=
  ⟨h.os, h.tape, h.output, by have := Below.size h; simpa [World.setCell] using this, fun j hj => (Below.heap_setCell _ _ _ _ (by show j ≠ g; omega)).trans (Below.block h j hj)⟩
theorem below_sets {k g : Nat} (hk : k ≤ g) : ∀ (vs : List Value) (n : Nat) {w0 w : World}, Below k w0 w → Below k w0 (w.setCells g n vs)
  | [], _, _, _, h => h
  | v :: vs, n, _, _, h => below_sets hk vs (n + 1) (below_set1 h hk v)
theorem heap_sets {g k : Nat} (hk : k ≠ g) : ∀ (vs : List Value) (n : Nat) (w : World), (w.setCells g n vs).heap[k]? = w.heap[k]?
  | [], _, _ => rfl
  | _ :: vs, n, _ => (heap_sets hk vs (n + 1) _).trans (Below.heap_setCell _ _ _ _ hk)
theorem block_setCells {g t : Nat} {fr : Nat × Nat} (post : List Value) : ∀ (vs old pre : List Value) (w : World), old.length = vs.length → w.heap[g]? = some (.cells (pre ++ (old ++ post)).toArray t fr) → (w.setCells g pre.length vs).heap[g]? = some (.cells (pre ++ (vs ++ post)).toArray t fr)
  | [], [], pre, w, _, h => h
  | v :: vs, o :: old, pre, w, hl, h => by
    have h1 := block_setCell (n := pre.length) h v
    rw [List.set_append_right _ _ (Nat.le_refl _), Nat.sub_self] at h1
    have h2 : (w.setCell ⟨g, pre.length, none⟩ v).heap[g]? = some (.cells ((pre ++ [v]) ++ (old ++ post)).toArray t fr) := by rw [h1]; simp
    have ih := block_setCells post vs old (pre ++ [v]) (w.setCell ⟨g, pre.length, none⟩ v) (by simpa using hl) h2
    rw [List.length_append] at ih
    show ((w.setCell ⟨g, pre.length, none⟩ v).setCells g (pre.length + 1) vs).heap[g]? = _
    rw [show pre.length + 1 = pre.length + [v].length from rfl, ih]
    simp
  | [], _ :: _, _, _, hl, _ => by simp at hl
  | _ :: _, [], _, _, hl, _ => by simp at hl
theorem there_part {w : World} {g t : Nat} (pre old post : List Value) (h : w.heap[g]? = some (.cells (pre ++ (old ++ post)).toArray t (0, 0))) : w.there g pre.length old.length := fun j hj => by
  refine ⟨?_, ?_⟩
  · rw [cell_part (n := pre.length + j) (u := old[j]) h (by rw [List.getElem?_append_right (by omega), Nat.add_sub_cancel_left, List.getElem?_append_left hj, List.getElem?_eq_getElem hj])]
    rfl
  · simp [World.frozen?, h]
/-- A store into a part of a struct that lies in a block: the world behind it stays a letter. -/
theorem wpList_store_part {P : Program} {ops : Array Oper} {rest : List Oper} {o : Oper} {a : Act} {w : World} {Q : Exit → Act → World → Prop} (hgd : o.guard = none) (ty : TypeId) (x y : Operand) (ho : o.op = .store ty x y)
    (g n : Nat) (v : Value) (hx : a.eval x = .pointer (some ⟨g, n, none⟩)) (hy : a.eval y = v)
    (t : TypeId) (pre old vs post : List Value) (hv : v.cells = vs.toArray) (hn : pre.length = n) (hg : w.heap[g]? = some (.cells (pre ++ (old ++ post)).toArray t (0, 0))) (hi : (P.info? ty).map (·.size) = some vs.length)
    (hold : old.length = vs.length) (h1 : ∀ u ∈ vs, u.oneCell' = true)
    (h : ∀ w', Hid (w'.heap[g]? = some (.cells (pre ++ (vs ++ post)).toArray t (0, 0))) → Hid (∀ k, k ≠ g → w'.heap[k]? = w.heap[k]?) → (∀ k w0, k ≤ g → Below k w0 w → Below k w0 w') → wpList P ops Q rest (a.put o.dst undef) w') : wpList P ops Q (o :: rest) a w :=
  wpList_plain hgd fun K hK => by
    subst hn
    have ht := there_part pre old post hg
    rw [hold] at ht
    have hr : (storeVar ty ⟨g, pre.length, none⟩ v).run P w = .ok () (w.setCells g pre.length vs) := by
      have := run_storeCells_cells (P := P) g pre.length vs 0 w (fun j hj => by simpa using (ht j hj).1) (fun j hj => by simpa using (ht j hj).2) h1
      cases hq : P.info? ty with
      | none => simp [hq] at hi
      | some i =>
        have hs : vs.length = i.size := by simp [hq] at hi; omega
        simp only [Nat.add_zero] at this
        simp [storeVar, sizeOf, typeInfo, hq, hv, hs, this]
    unfold Oper.wp execOp
    simp only [ho, hx, hy, Instr.storeAt, Instr.sureAddr, Sem.run_bind, Sem.run_pure, Result.andThen_ok, hr]
    exact hK _ _ (h _ (show _ = _ from block_setCells post vs old pre w hold hg) (show _ from fun k hk => heap_sets hk vs _ w) fun k w0 hk hb => below_sets hk vs _ hb)
theorem results_cell2 {P : Program} {fn : Func} {p1 p2 q : Tmp} {ty1 ty2 : TypeId} (h : fn.results = #[.cell p1 ty1, .cell p2 ty2, .tmp q]) (tmps : Array Value) (w : World) (g1 g2 : Nat) (t1 t2 : TypeId) (cs1 cs2 : Array Value) (fr1 fr2 : Nat × Nat) (d1 d2 : TypeDesc)
    (hp1 : tmps.getD p1 undef = .pointer (some ⟨g1, 0, none⟩)) (hp2 : tmps.getD p2 undef = .pointer (some ⟨g2, 0, none⟩)) (hg1 : w.heap[g1]? = some (.cells cs1 t1 fr1)) (hg2 : w.heap[g2]? = some (.cells cs2 t2 fr2))
    (hu1 : P.underlying ty1 = some d1) (hd1 : (match d1 with | .struct _ | .array _ _ => true | _ => false) = true) (hi1 : (P.info? ty1).map (·.size) = some cs1.size)
    (hu2 : P.underlying ty2 = some d2) (hd2 : (match d2 with | .struct _ | .array _ _ => true | _ => false) = true) (hi2 : (P.info? ty2).map (·.size) = some cs2.size) :
    (results fn tmps).run P w = .ok (.tuple #[.agg cs1, .agg cs2, tmps.getD q undef]) w := by
  have hp1' : tmps[p1]?.getD undef = .pointer (some ⟨g1, 0, none⟩) := by simpa using hp1
  have hp2' : tmps[p2]?.getD undef = .pointer (some ⟨g2, 0, none⟩) := by simpa using hp2
  simp [results, h, hp1', hp2', asAddr, run_loadVar_row w g1 t1 ty1 cs1 fr1 d1 hg1 hu1 hd1 hi1, run_loadVar_row w g2 t2 ty2 cs2 fr2 d2 hg2 hu2 hd2 hi2]
theorem results_tmp_cell_tmp {P : Program} {fn : Func} {p q r : Tmp} {ty : TypeId} (h : fn.results = #[.tmp r, .cell p ty, .tmp q]) (tmps : Array Value) (w : World) (g : Nat) (t : TypeId) (cs : Array Value) (fr : Nat × Nat) (d : TypeDesc)
    (hp : tmps.getD p undef = .pointer (some ⟨g, 0, none⟩)) (hg : w.heap[g]? = some (.cells cs t fr))
    (hu : P.underlying ty = some d) (hd : (match d with | .struct _ | .array _ _ => true | _ => false) = true) (hi : (P.info? ty).map (·.size) = some cs.size) :
    (results fn tmps).run P w = .ok (.tuple #[tmps.getD r undef, .agg cs, tmps.getD q undef]) w := by
  have hp' : tmps[p]?.getD undef = .pointer (some ⟨g, 0, none⟩) := by simpa using hp
  simp [results, h, hp', asAddr, run_loadVar_row w g t ty cs fr d hg hu hd hi]
section
variable {ops : Array Oper} {w0 : World} {Kd : Nat → Nat} {Q : Exit → Act → World → Prop} {n k : Nat} {o : Oper} {l : List Oper} {a : Act} {w : World}
theorem lf_load_key (hk : Kd k = 0) (hw : Region.wanted o (yielded ops a.tmps) = true) (x : Operand) (ho : o.op = .load 30 x)
    (g q : Nat) (hx : a.eval x = .pointer (some ⟨g, q, none⟩)) (X : List (BitVec 8)) (hr : Rd w0 (.slice (some ⟨g, q, none⟩) 32 32) (bv X)) (hX : X.length = 32)
    (h : wpFx Tryd.prog ops w0 Kd Q n (k + 1) l (a.put o.dst (.agg (bv X).toArray)) w) : wpFx Tryd.prog ops w0 Kd Q (n + 1) k (o :: l) a w := by
  have hup := wpFx_up (P := Tryd.prog) (ops := ops) (w0 := w0) (Kd := Kd) (Q := Q) n (k + 1) l
  simp only [wpFx_succ, stepF, hw, if_true, hk]
  rw [if_neg (by omega)]
  refine ⟨none, fun _ => .agg (bv X).toArray, fun _ => rfl, fun w1 hw1 _ => .inl ?_, fun w1 g hw1 _ => hup _ _ _ hw1 h⟩
  unfold execOp
  simp only [ho, hx, Instr.loadAt, Instr.sureAddr, Sem.run_bind, Sem.run_pure, Result.andThen_ok, run_loadVar_key w1 g q 32 32 X (hr.grow hw1) hX]
end
theorem own_blk {w : World} {base g e : Nat} {xs : List Value} (hg : w.heap[g]? = some (.cells xs.toArray e (0, 0))) (hb : base ≤ g) (hm : xs.length ≤ maxLen) : w.ownsRow base e 1 (.slice (some ⟨g, 0, none⟩) xs.length xs.length) xs.length xs :=
  ⟨by simp, .inr ⟨g, xs.length, xs.toArray, rfl, hb, hg, Nat.le_refl _, hm, by simp, by simp⟩⟩
section
variable {P : Program} {ops : Array Oper} {C : World → Prop} {E : Nat → Bool} {Q : Exit → Act → World → Prop} {n k : Nat} {o : Oper} {l : List Oper} {a : Act} {w : World}
theorem lx_load_agg (hE : E k = false) (hw : Region.wanted o (yielded ops a.tmps) = true) (ty : TypeId) (x : Operand) (ho : o.op = .load ty x) (ad : Addr) (hx : a.eval x = .pointer (some ad)) (cs : Array Value)
    (hl : ∀ w', C w' → (loadVar ty ad).run P w' = .ok (.agg cs) w') (h : wpLx P ops C E Q n (k + 1) l (a.put o.dst (.agg cs)) w) : wpLx P ops C E Q (n + 1) k (o :: l) a w := by
  simp only [wpLx, stepL, hw, if_true, hE]
  refine ⟨.agg cs, fun w' hw' => .inl ?_, h⟩
  unfold execOp
  simp only [ho, hx, Instr.loadAt, Instr.sureAddr, Sem.run_bind, Sem.run_pure, Result.andThen_ok, hl w' hw']
end
/-- A source's cells. -/
def drawsL (seed : List (BitVec 8)) (N : Nat) : List Value := bv seed ++ [.int .u64 (N : Int)]
set_option maxRecDepth 100000 in
theorem run_eq_keyD (d : Nat) {X Y : List (BitVec 8)} (hx : X.length = 32) (hy : Y.length = 32) (w : World) : (Op.equalIn (d + 2) 30 (.agg (bv X).toArray) (.agg (bv Y).toArray)).run Tryd.prog w = .ok (decide (X = Y)) w := by
  have h := run_equalIn_ints (P := Tryd.prog) w (d + 2) d rfl 30 5 32 .u8 Tryd.underlying30 Tryd.underlying5 (by kernel_rfl) (X.map bn) (Y.map bn) (by simpa using hx) (by simpa using hy)
  have e : ∀ Z : List (BitVec 8), (bv Z) = (Z.map bn).map (Value.int .u8) := fun Z => by simp [bv]
  rw [e, e, h]
  congr 1
  by_cases hXY : X = Y
  · subst hXY; simp
  · have : ¬ X.map bn = Y.map bn := fun h => hXY ((List.map_inj_right (fun _ _ h => bn_inj h)).1 h)
    simp [hXY, this]
end Go.Proofs.YtdbhlajajdlmfaaDoor
/- draw.Check, derived, Next, Fork, New: what they hand back. -/
namespace Go.Proofs.YtdbhlajajdlmfaaDoor
open Go Go.RowKit
/-- A drawn secret, the source behind it, and why not. -/
def drawS : List (BitVec 8) := [100, 114, 97, 119]
def nxE (N : Nat) : Int := if N < 4294967296 then 0 else if N = 4294967296 then 8 else 1
def nxK (seed : List (BitVec 8)) (N : Nat) : List (BitVec 8) := if N < 4294967296 then drvKey seed drawS [beL 8 N] else List.replicate 32 0
def nxS (seed : List (BitVec 8)) (N : Nat) : List (BitVec 8) := if N < 4294967296 then seed else List.replicate 32 0
def nxN (N : Nat) : Nat := if N < 4294967296 then N + 1 else 0
def NextSays (seed : List (BitVec 8)) (N : Nat) (w : World) (e : Ending) (w' : World) : Prop :=
  e = .returned (.tuple #[.agg (bv (nxK seed N)).toArray, .agg (drawsL (nxS seed N) (nxN N)).toArray, .int .i64 (nxE N)]) ∧ Aft w w'
theorem NextSays.good {seed X : List (BitVec 8)} {N : Nat} {w w' : World} (h : N < 4294967296) (hX : X = nxK seed N) (ha : Aft w w') : NextSays seed N w (.returned (.tuple #[.agg (bv X).toArray, .agg (drawsL seed (N + 1)).toArray, .int .i64 0])) w' := by
  subst hX
  refine ⟨?_, ha⟩
  have h1 : nxS seed N = seed := if_pos h
  have h2 : nxN N = N + 1 := if_pos h
  have h3 : nxE N = 0 := if_pos h
  rw [h1, h2, h3]
theorem NextSays.bad {seed : List (BitVec 8)} {N : Nat} {w w' : World} (h : ¬ N ≤ 4294967296) (ha : Aft w w') : NextSays seed N w (.returned (.tuple #[.agg (bv (List.replicate 32 0)).toArray, .agg (drawsL (List.replicate 32 0) 0).toArray, .int .i64 1])) w' := by
  refine ⟨?_, ha⟩
  have h0 : nxK seed N = List.replicate 32 0 := if_neg (by omega)
  have h1 : nxS seed N = List.replicate 32 0 := if_neg (by omega)
  have h2 : nxN N = 0 := if_neg (by omega)
  have h3 : nxE N = 1 := by unfold nxE; rw [if_neg (by omega), if_neg (by omega)]
  rw [h0, h1, h2, h3]
end Go.Proofs.YtdbhlajajdlmfaaDoor
/- coterielaw03.MacExpands: it answers true. -/
namespace Go.Proofs.YtdbhlajajdlmfaaDoor
open Go Go.RowKit
theorem wpList_load_rowG {P : Program} {ops : Array Oper} {rest : List Oper} {o : Oper} {a : Act} {w : World} {Q : Exit → Act → World → Prop} (hw : Region.wanted o (yielded ops a.tmps) = true) (ty : TypeId) (x : Operand) (ho : o.op = .load ty x)
    (g : Nat) (hx : a.eval x = .pointer (some ⟨g, 0, none⟩)) (t : TypeId) (cs : Array Value) (fr : Nat × Nat) (d : TypeDesc) (hg : w.heap[g]? = some (.cells cs t fr))
    (hu : P.underlying ty = some d) (hd : (match d with | .struct _ | .array _ _ => true | _ => false) = true) (hi : (P.info? ty).map (·.size) = some cs.size)
    (h : wpList P ops Q rest (a.put o.dst (.agg cs)) w) : wpList P ops Q (o :: rest) a w := by
  unfold wpList
  rw [if_pos hw]
  exact .inl (wp_noOut (wp_load_row ty x ho g hx t cs fr d hg hu hd hi h))
end Go.Proofs.YtdbhlajajdlmfaaDoor
/- A ledger of the blocks that a walk has made: what each holds now, by its number in the order of making. -/
namespace Go.Proofs.YtdbhlajajdlmfaaDoor
open Go Go.RowKit
structure Led (w0 w : World) (L : List (Nat × Obj)) : Prop where
  aft : Aft w0 w
  has : ∀ (i g : Nat) (o : Obj), L[i]? = some (g, o) → w.heap[g]? = some o ∧ w0.heap.size ≤ g
  inc : ∀ (i j g h : Nat) (o p : Obj), i < j → L[i]? = some (g, o) → L[j]? = some (h, p) → g < h
theorem Led.start (w : World) : Led w w [] := ⟨Aft.refl w, fun _ _ _ h => by simp at h, fun _ _ _ _ _ _ _ h => by simp at h⟩
theorem Led.get {w0 w : World} {L : List (Nat × Obj)} (h : Led w0 w L) (i : Nat) {g : Nat} {o : Obj} (hi : L[i]? = some (g, o)) : w.heap[g]? = some o := (h.has i g o hi).1
theorem Led.call {w0 w w' : World} {L : List (Nat × Obj)} (h : Led w0 w L) (ha : Aft w w') : Led w0 w' L :=
  ⟨Aft.trans h.aft ha, fun i g o hi => ⟨Aft.get ha (h.get i hi), (h.has i g o hi).2⟩, h.inc⟩
theorem Led.fresh {w0 w w' : World} {L : List (Nat × Obj)} {obj : Obj} {g0 : Nat} (h : Led w0 w L) (ha : Aft w w') (hle : w.heap.size ≤ g0) (hg : w'.heap[g0]? = some obj) : Led w0 w' (L ++ [(g0, obj)]) := by
  have hlt : ∀ (i g : Nat) (o : Obj), L[i]? = some (g, o) → g < w.heap.size := fun i g o hi => heap_lt (h.get i hi)
  have hsz := Below.size h.aft
  refine ⟨Aft.trans h.aft ha, fun i g o hi => ?_, fun i j g k o p hij hi hj => ?_⟩
  · by_cases hl : i < L.length
    · rw [List.getElem?_append_left hl] at hi
      exact ⟨Aft.get ha (h.get i hi), (h.has i g o hi).2⟩
    · rw [List.getElem?_append_right (by omega)] at hi
      have : i - L.length = 0 := by have := (List.getElem?_eq_some_iff.1 hi).1; simp at this; omega
      rw [this] at hi
      cases hi
      exact ⟨hg, by omega⟩
  · by_cases hl : j < L.length
    · rw [List.getElem?_append_left hl] at hj
      rw [List.getElem?_append_left (by omega)] at hi
      exact h.inc i j g k o p hij hi hj
    · rw [List.getElem?_append_right (by omega)] at hj
      have h0 : j - L.length = 0 := by have := (List.getElem?_eq_some_iff.1 hj).1; simp at this; omega
      rw [h0] at hj
      cases hj
      rw [List.getElem?_append_left (by omega)] at hi
      have := hlt i g o hi
      omega
theorem Led.alloc {w0 w w' : World} {L : List (Nat × Obj)} {obj : Obj} (h : Led w0 w L) (ha : Aft w w') (hg : w'.heap[w.heap.size]? = some obj) : Led w0 w' (L ++ [(w.heap.size, obj)]) := h.fresh ha (Nat.le_refl _) hg
theorem Led.store {w0 w w' : World} {L : List (Nat × Obj)} (h : Led w0 w L) (i : Nat) {g : Nat} {old new : Obj} (hi : L[i]? = some (g, old)) (h1 : Hid (w'.heap[g]? = some new)) (h2 : Hid (∀ k, k ≠ g → w'.heap[k]? = w.heap[k]?))
    (h3 : ∀ k w0, k ≤ g → Below k w0 w → Below k w0 w') : Led w0 w' (L.set i (g, new)) := by
  have hl : i < L.length := (List.getElem?_eq_some_iff.1 hi).1
  have hset : ∀ (j k : Nat) (o : Obj), (L.set i (g, new))[j]? = some (k, o) → ∃ o', L[j]? = some (k, o') ∧ (j ≠ i → o' = o) := by
    intro j k o hj
    by_cases hji : j = i
    · subst hji
      rw [List.getElem?_set_self hl] at hj
      cases hj
      exact ⟨old, hi, fun h => absurd rfl h⟩
    · rw [List.getElem?_set_ne (Ne.symm hji)] at hj
      exact ⟨o, hj, fun _ => rfl⟩
  refine ⟨h3 _ _ (h.has i g old hi).2 h.aft, fun j k o hj => ?_, fun j l k m o p hjl hj hp => ?_⟩
  · obtain ⟨o', ho, hoo⟩ := hset j k o hj
    refine ⟨?_, (h.has j k o' ho).2⟩
    by_cases hji : j = i
    · subst hji
      rw [List.getElem?_set_self hl] at hj
      cases hj
      exact h1
    · obtain rfl := hoo hji
      have hne : k ≠ g := by
        intro e
        subst e
        rcases Nat.lt_or_gt_of_ne hji with hlt | hlt
        · exact absurd (h.inc j i k k _ _ hlt ho hi) (Nat.lt_irrefl _)
        · exact absurd (h.inc i j k k _ _ hlt hi ho) (Nat.lt_irrefl _)
      exact (h2 k hne).trans (h.get j ho)
  · obtain ⟨o', ho, -⟩ := hset j k o hj
    obtain ⟨p', hp', -⟩ := hset l m p hp
    exact h.inc j l k m o' p' hjl ho hp'
theorem Led.key {w0 w : World} {L : List (Nat × Obj)} (h : Led w0 w L) (i : Nat) {g : Nat} {X : List (BitVec 8)} (hi : L[i]? = some (g, .cells (bv X).toArray 30 (0, 0))) (hX : X.length = 32) : Rd w (.slice (some ⟨g, 0, none⟩) 32 32) (bv X) := Rd.of_key (h.get i hi) hX
theorem Led.tab {w0 w : World} {L : List (Nat × Obj)} {b : Nat} (h : Led w0 w L) (hK : TabK K0 b w0) : TabK K0 b w := TabK_fr hK (Fr.of_below (S := fun _ => False) h.aft) (fun h => h)
theorem Led.le {w0 w : World} {L : List (Nat × Obj)} (h : Led w0 w L) (i : Nat) {g : Nat} {o : Obj} (hi : L[i]? = some (g, o)) : w0.heap.size ≤ g := (h.has i g o hi).2
/-- A struct, built: its value by an equation. -/
theorem wpList_buildO {P : Program} {ops : Array Oper} {rest : List Oper} {o : Oper} {a : Act} {w : World} {Q : Exit → Act → World → Prop} (hw : Region.wanted o (yielded ops a.tmps) = true) (ty : TypeId) (parts : Array (Nat × Operand)) (ho : o.op = .build ty parts) (vs : Array (Nat × Value))
    (hp : (parts.map fun (i, x) => (i, a.eval x)) = vs) (v : Value) (hv : ∀ w1, (Instr.build ty vs).run P w1 = .ok v w1) (h : wpList P ops Q rest (a.put o.dst v) w) : wpList P ops Q (o :: rest) a w := by
  unfold wpList
  rw [if_pos hw]
  refine .inl (wp_noOut ?_)
  unfold Oper.wp execOp
  simp only [ho, hp, Sem.run_bind, hv, Result.andThen_ok, Sem.run_pure]
  exact h
end Go.Proofs.YtdbhlajajdlmfaaDoor
/- draw.New, Fork; the law's live. -/
namespace Go.Proofs.YtdbhlajajdlmfaaDoor
open Go Go.RowKit
set_option maxRecDepth 100000 in
theorem run_neq_zero {X : List (BitVec 8)} (hX : X.length = 32) (b : Bool) (hb : decide (X = List.replicate 32 0) = b) (w : World) : (Go.binOp .neq 30 (.agg (bv X).toArray) (.agg key0)).run Tryd.prog w = .ok (.bool (!b)) w := by
  rw [← key0_bv, run_neq_struct, run_eq_keyD 9998 hX List.length_replicate, ← hb]
  rfl
set_option maxRecDepth 100000 in
theorem run_eql_zero {X : List (BitVec 8)} (hX : X.length = 32) (b : Bool) (hb : decide (X = List.replicate 32 0) = b) (w : World) : (Go.binOp .eql 30 (.agg (bv X).toArray) (.agg key0)).run Tryd.prog w = .ok (.bool b) w := by
  rw [← key0_bv, run_eql_struct, run_eq_keyD 9998 hX List.length_replicate, ← hb]
  rfl
end Go.Proofs.YtdbhlajajdlmfaaDoor
/- sched.Check, and the document's; the secrets behind an epoch. -/
namespace Go.Proofs.YtdbhlajajdlmfaaDoor
open Go Go.RowKit
theorem run_sliceAt_keyN (w : World) (b n : Nat) : (Instr.sliceAt 30 (.pointer (some ⟨b, n, none⟩)) none none none).run Tryd.prog w = .ok (.slice (some ⟨b, n, none⟩) 32 32) w := by kernel_rfl
end Go.Proofs.YtdbhlajajdlmfaaDoor
/- sched.Enter, and the document's: what an epoch is, entered. -/
namespace Go.Proofs.YtdbhlajajdlmfaaDoor
open Go Go.RowKit
theorem Led.same {w0 w w' : World} {L : List (Nat × Obj)} (h : Led w0 w L) {g : Nat} {o : Obj} (h0 : w0.heap[g]? = some o) (h1 : Hid (w'.heap[g]? = some o)) (h2 : Hid (∀ k, k ≠ g → w'.heap[k]? = w.heap[k]?)) (h3 : ∀ k w0, k ≤ g → Below k w0 w → Below k w0 w') : Led w0 w' L := by
  have hz := h3 0 w0 (Nat.zero_le _) ⟨h.aft.os, h.aft.tape, h.aft.output, h.aft.size, fun k hk => absurd hk (Nat.not_lt_zero _)⟩
  refine ⟨⟨hz.os, hz.tape, hz.output, hz.size, fun k hk => ?_⟩, fun i g' o' hi => ?_, h.inc⟩
  · by_cases e : k = g
    · subst e
      exact h1.out.trans h0.symm
    · exact (h2.out k e).trans (h.aft.block k hk)
  · have hge := (h.has i g' o' hi).2
    have hlt := heap_lt h0
    exact ⟨(h2.out g' (by omega)).trans (h.get i hi), hge⟩
theorem alloc_errno (w : World) : (Instr.alloc 33 true (.tuple #[])).run Tryd.prog w = .ok (.pointer (some ⟨w.heap.size, 0, none⟩)) (w.alloc (.cells #[.int .i64 0] 33)) := by kernel_rfl
theorem wpList_store_errno {ops : Array Oper} {rest : List Oper} {o : Oper} {a : Act} {w : World} {Q : Exit → Act → World → Prop} (hgd : o.guard = none) (x y : Operand) (ho : o.op = .store 33 x y) (g : Nat) (u : Int)
    (hx : a.eval x = .pointer (some ⟨g, 0, none⟩)) (hy : a.eval y = .int .i64 u) (old : Int) (hg : w.heap[g]? = some (.cells #[.int .i64 old] 33 (0, 0)))
    (h : ∀ w', Hid (w'.heap[g]? = some (.cells #[.int .i64 u] 33 (0, 0))) → Hid (∀ k, k ≠ g → w'.heap[k]? = w.heap[k]?) → (∀ k w0, k ≤ g → Below k w0 w → Below k w0 w') → wpList Tryd.prog ops Q rest (a.put o.dst undef) w') : wpList Tryd.prog ops Q (o :: rest) a w :=
  wpList_store_part hgd _ x y ho g 0 (.int .i64 u) hx hy 33 [] [.int .i64 old] [.int .i64 u] [] rfl rfl hg (by kernel_rfl) rfl (fun v hv => by simp at hv; subst hv; rfl) h
theorem wpList_load_keyG {ops : Array Oper} {rest : List Oper} {o : Oper} {a : Act} {w : World} {Q : Exit → Act → World → Prop} (hw : Region.wanted o (yielded ops a.tmps) = true) (x : Operand) (ho : o.op = .load 30 x)
    (g q : Nat) (hx : a.eval x = .pointer (some ⟨g, q, none⟩)) (X : List (BitVec 8)) (hr : Rd w (.slice (some ⟨g, q, none⟩) 32 32) (bv X)) (hX : X.length = 32)
    (h : wpList Tryd.prog ops Q rest (a.put o.dst (.agg (bv X).toArray)) w) : wpList Tryd.prog ops Q (o :: rest) a w := by
  unfold wpList
  rw [if_pos hw]
  refine .inl (wp_noOut ?_)
  unfold Oper.wp execOp
  simp only [ho, hx, Instr.loadAt, Instr.sureAddr, Sem.run_bind, Sem.run_pure, Result.andThen_ok, run_loadVar_key w g q 32 32 X hr hX]
  exact h
end Go.Proofs.YtdbhlajajdlmfaaDoor
/- A source that comes in: its cells. -/
namespace Go.Proofs.YtdbhlajajdlmfaaDoor
open Go Go.RowKit Go.ChangeShapes Go.WideShapes Go.ChangeAt
section
variable {H : Type} {enc : TypeId × Value → H} {w : World} {base : Nat} {spare : Nat → Bool} {held : Bool}
theorem open_keyCells {fuel : Nat} {cs : List Value} {x : DataW H × List MemPlace} (hl : cs.length = 32) (h : DataW.trod enc Tryd.prog w base spare held fuel 30 cs = some x) : ∃ k : List (BitVec 8), cs = bv k ∧ k.length = 32 := by
  have g := ints_of_array Tryd.underlying30 Tryd.underlying5 (by kernel_rfl) h
  obtain ⟨Z, hZ⟩ := Deep.choose_lt (α := Int) (n := 32) (p := fun i z => cs[i]? = some (.int .u8 z) ∧ (Lit.int .u8 z).wf = true) (fun i hi => by
    obtain ⟨z, h1, h2⟩ := g i hi
    exact ⟨z, by simpa [Value.cells] using h1, h2⟩)
  refine ⟨(List.range 32).map fun i => BitVec.ofInt 8 (Z i), ?_, by simp⟩
  apply List.ext_getElem?
  intro i
  by_cases hi : i < 32
  · rw [(hZ i hi).1]
    simp only [bv, List.map_map, List.getElem?_map, List.getElem?_range hi, Option.map_some, Function.comp]
    rw [← bn_of (hZ i hi).2]
  · rw [List.getElem?_eq_none (by omega), List.getElem?_eq_none (by simp [bv]; omega)]
end
end Go.Proofs.YtdbhlajajdlmfaaDoor
/- Slices of keys: how they read, and how one comes in. -/
namespace Go.Proofs.YtdbhlajajdlmfaaDoor
open Go Go.RowKit
def ksL (ks : List (List (BitVec 8))) : List Value := (ks.map bv).flatten
theorem ksL_cons (k : List (BitVec 8)) (ks : List (List (BitVec 8))) : ksL (k :: ks) = bv k ++ ksL ks := by simp [ksL]
theorem ksL_append (ks ls : List (List (BitVec 8))) : ksL (ks ++ ls) = ksL ks ++ ksL ls := by simp [ksL]
theorem ksL_length : ∀ {ks : List (List (BitVec 8))} (_ : ∀ k ∈ ks, k.length = 32), (ksL ks).length = ks.length * 32
  | [], _ => rfl
  | k :: ks, h => by
    rw [ksL_cons, List.length_append, bv_length, h k (by simp), ksL_length (fun x hx => h x (by simp [hx])), List.length_cons]
    omega
theorem ksL_at : ∀ {ks : List (List (BitVec 8))} (_ : ∀ k ∈ ks, k.length = 32) (i j : Nat), i < ks.length → j < 32 → (ksL ks)[i * 32 + j]? = (bv (ks.getD i []))[j]?
  | [], _, i, j, hi, _ => by simp at hi
  | k :: ks, h, 0, j, _, hj => by
    rw [ksL_cons, Nat.zero_mul, Nat.zero_add, List.getElem?_append_left (by rw [bv_length, h k (by simp)]; exact hj)]
    rfl
  | k :: ks, h, i + 1, j, hi, hj => by
    have h1 : (bv k).length = 32 := by rw [bv_length, h k (by simp)]
    rw [ksL_cons, List.getElem?_append_right (by rw [h1]; omega), h1, show (i + 1) * 32 + j - 32 = i * 32 + j by omega, ksL_at (fun x hx => h x (by simp [hx])) i j (by simpa using hi) hj]
    rfl
theorem ksL_one (ks : List (List (BitVec 8))) : ∀ u ∈ ksL ks, u.oneCell' = true := by
  intro u hu
  obtain ⟨l, hl, hm⟩ := List.mem_flatten.1 hu
  obtain ⟨k, -, rfl⟩ := List.mem_map.1 hl
  exact bv_one k u hm
/-- A slice of keys reads as a list of keys. -/
def RdK (w : World) (v : Value) (ks : List (List (BitVec 8))) : Prop :=
  ∃ ao cap, v = .slice ao ks.length cap ∧ ks.length ≤ cap ∧ cap ≤ 9223372036854775807 ∧ (ao = none → cap = 0) ∧ (∀ k ∈ ks, k.length = 32) ∧ ∀ ad, ao = some ad → ∀ i, i < ks.length → Rd w (.slice (some (ad.add (i * 32))) 32 32) (bv (ks.getD i []))
theorem RdK.nil (w : World) : RdK w (.slice none 0 0) [] := ⟨none, 0, rfl, Nat.le_refl _, by omega, fun _ => rfl, fun _ h => (by simp at h), fun _ h => (by cases h)⟩
theorem RdK.grow {w w' : World} {v : Value} {ks : List (List (BitVec 8))} (h : RdK w v ks) (hb : Aft w w') : RdK w' v ks := by
  obtain ⟨ao, cap, rfl, h1, h2, h3, h4, h5⟩ := h
  exact ⟨ao, cap, rfl, h1, h2, h3, h4, fun ad ha i hi => (h5 ad ha i hi).grow hb⟩
theorem RdK.shape {w : World} {v : Value} {ks : List (List (BitVec 8))} (h : RdK w v ks) : ∃ ao cap, v = .slice ao ks.length cap ∧ ks.length ≤ 9223372036854775807 ∧ ∀ k ∈ ks, k.length = 32 := by
  obtain ⟨ao, cap, rfl, h1, h2, h3, h4, h5⟩ := h
  exact ⟨ao, cap, rfl, by omega, h4⟩
/-- An element: where it lies, and what it reads as. -/
theorem RdK.at {w : World} {v : Value} {ks : List (List (BitVec 8))} (h : RdK w v ks) {i : Nat} (hi : i < ks.length) :
    ∃ g o cap, v = .slice (some ⟨g, o, none⟩) ks.length cap ∧ (ks.getD i []).length = 32 ∧ Rd w (.slice (some ⟨g, o + i * 32, none⟩) 32 32) (bv (ks.getD i [])) := by
  obtain ⟨ao, cap, rfl, h1, h2, h3, h4, h5⟩ := h
  have hk : (ks.getD i []).length = 32 := by
    rw [List.getD_eq_getElem?_getD, List.getElem?_eq_getElem hi]
    exact h4 _ (List.getElem_mem hi)
  cases ao with
  | none => have := h3 rfl; omega
  | some ad =>
    have h0 : (ks.getD 0 []).length = 32 := by
      rw [List.getD_eq_getElem?_getD, List.getElem?_eq_getElem (by omega)]
      exact h4 _ (List.getElem_mem _)
    obtain ⟨g, o, c, he, -⟩ := (h5 ad rfl 0 (by omega)).at (by rw [bv_length, h0]; omega)
    injection he with he
    obtain rfl : ad = ⟨g, o, none⟩ := by
      have := Option.some.inj he
      rwa [show ad.add (0 * 32) = ad from rfl] at this
    have h6 := h5 _ rfl i hi
    rw [Addr.add_lit] at h6
    exact ⟨g, o, cap, rfl, hk, h6⟩
/-- The cells of all. -/
theorem RdK.cells {w : World} {ad : Addr} {n cap : Nat} {ks : List (List (BitVec 8))} (h : RdK w (.slice (some ad) n cap) ks) : ∀ j u, (ksL ks)[j]? = some u → w.cell? (ad.add j) = some u := by
  obtain ⟨ao, cap, he, h1, h2, h3, h4, h5⟩ := h
  intro j u hu
  have hL := ksL_length h4
  have hj : j < ks.length * 32 := by
    have := (List.getElem?_eq_some_iff.1 hu).1
    omega
  injection he with ha
  obtain ⟨a2, c2, e2, r1, r2, r3, r4⟩ := h5 ad ha.symm (j / 32) (by omega)
  have hd := ksL_at h4 (j / 32) (j % 32) (by omega) (Nat.mod_lt _ (by omega))
  rw [show j / 32 * 32 + j % 32 = j by omega] at hd
  injection e2 with e2
  have := r4 _ e2.symm (j % 32) u (hd.symm.trans hu)
  rwa [Deep.add_add, show j / 32 * 32 + j % 32 = j by omega] at this
end Go.Proofs.YtdbhlajajdlmfaaDoor
namespace Go.Proofs.YtdbhlajajdlmfaaDoor
open Go Go.RowKit Go.ChangeShapes Go.WideShapes Go.ChangeAt
section
variable {H : Type} {enc : TypeId × Value → H} {w : World} {base : Nat} {spare : Nat → Bool} {held : Bool}
set_option maxRecDepth 100000 in
theorem open_keysV {v : Value} {d : DataW H} {ps : List MemPlace} {W2 : World} {r : Reach} (hok : Value.okWide Tryd.prog W2 r base 26 v) (h : DataW.Trod enc Tryd.prog w 0 spare held 26 v d ps) :
    ∃ l, RdK w v l := by
  obtain ⟨a0, n0, c0, rfl⟩ := okWide_slice Tryd.underlying26 hok
  obtain ⟨fuel, hf⟩ := h
  rcases Deep.open_slice Tryd.underlying26 hf with ⟨h1, h2⟩ | ⟨a, len, cap, m, n, D, Pl, h1, hb, hl, hm, hmm, hx, hi⟩
  · have hv : Value.slice a0 n0 c0 = .slice none 0 0 := List.singleton_inj.1 h1
    rw [hv]
    exact ⟨[], RdK.nil w⟩
  · have hv : Value.slice a0 n0 c0 = .slice (some a) len cap := List.singleton_inj.1 h1
    have hk0 : Tryd.prog.cellsOf 30 = 32 := by kernel_rfl
    rw [hk0] at hi
    rw [hv]
    have hlm : len ≤ m := by rw [hmm]; split <;> omega
    obtain ⟨K, hK⟩ := Deep.choose_lt (α := List (BitVec 8)) (n := len) (p := fun i k => k.length = 32 ∧ ∀ j, j < 32 → w.cell? (a.add (i * 32 + j)) = (bv k)[j]?) (fun i him => by
      obtain ⟨cs', h3, h4⟩ := hi i (by omega)
      obtain ⟨-, hcl, hat⟩ := World.cells?_some h3
      obtain ⟨k, rfl, hk⟩ := open_keyCells hcl h4
      exact ⟨k, hk, fun j hj => by rw [← Deep.add_add, hat j hj]⟩)
    have hks : ∀ k ∈ (List.range len).map K, k.length = 32 := fun k hk => by
      obtain ⟨i, hir, rfl⟩ := List.mem_map.1 hk
      exact (hK i (List.mem_range.1 hir)).1
    refine ⟨(List.range len).map K, some a, cap, by simp, by simpa using hl, by unfold maxLen at hm; omega, (fun h => by cases h), hks, fun ad ha i hi => ?_⟩
    cases ha
    have hil : i < len := by simpa using hi
    have hg : ((List.range len).map K).getD i [] = K i := by simp [List.getD_eq_getElem?_getD, hil]
    obtain ⟨h7, h8⟩ := hK i hil
    rw [hg]
    refine ⟨some (a.add (i * 32)), 32, by rw [bv_length, h7], by rw [bv_length, h7]; exact Nat.le_refl _, by omega, (fun h => by cases h), fun ad ha j u hu => ?_⟩
    cases ha
    have hj : j < 32 := by
      have := (List.getElem?_eq_some_iff.1 hu).1
      rwa [bv_length, h7] at this
    rw [Deep.add_add, h8 j hj, hu]
end
end Go.Proofs.YtdbhlajajdlmfaaDoor
/- As the walk of a region that draws its order (wp_region_lexF), but one operation (number sp) may hand back whatever answers R, with a world of its own behind it: a conversion of a string, a call that is not ordered with another one. -/
namespace Go.Proofs.YtdbhlajajdlmfaaDoor
open Go Go.RowKit
section
variable {P : Program} {ops : Array Oper} {w0 : World} {Kd : Nat → Nat} {sp : Nat} {R : World → Value → Prop}
/-- What the special operation does. -/
def mkR (P : Program) (w0 : World) (R : World → Value → Prop) (o : Oper) (a : Act) : Prop := (∀ w w' v, Aft w w' → R w v → R w' v) ∧ ∀ w1, Aft w0 w1 → ∃ v w2, (execOp a.eval o).run P w1 = .ok (.value v) w2 ∧ Aft w1 w2 ∧ R w2 v
/-- What a value is, wherever in the order it is made. -/
def Spec (P : Program) (w0 : World) (kd : Nat) (special : Bool) (R : World → Value → Prop) (o : Oper) (a : Act) (S : World → Value → Prop) : Prop :=
  if special = true ∧ kd = 1 then S = R ∧ mkR P w0 R o a
  else ∃ ob F, S = (fun w v => ∃ g, holds w0 g w ob ∧ v = F g) ∧ (kd = 0 → ob = none) ∧ ∀ w1, Aft w0 w1 → pAt P o a w1 F ob
theorem mkR_put {o : Oper} (hs : ∀ cs b, o.op ≠ .select cs b) {a : Act} {dst : Option Tmp} {u : Value} (h1 : ∀ d, dst = some d → d ∉ o.looksAt ops) : mkR P w0 R o (a.put dst u) ↔ mkR P w0 R o a := by
  unfold mkR
  rw [execOp_put (ops := ops) o hs a dst u h1]
theorem mkR_defers {o : Oper} {a : Act} (b : List Deferred) : mkR P w0 R o { a with defers := b } ↔ mkR P w0 R o a := by
  have e : (({ a with defers := b } : Act).eval) = a.eval := by funext x; cases x <;> rfl
  unfold mkR
  rw [e]
theorem Spec_put {kd : Nat} {sb : Bool} {S : World → Value → Prop} {o : Oper} (hs : ∀ cs b, o.op ≠ .select cs b) {a : Act} {dst : Option Tmp} {u : Value} (h1 : ∀ d, dst = some d → d ∉ o.looksAt ops) : Spec P w0 kd sb R o (a.put dst u) S ↔ Spec P w0 kd sb R o a S := by
  unfold Spec
  split
  · rw [mkR_put (ops := ops) hs h1]
  · simp only [pAt_put (ops := ops) hs h1]
theorem Spec_defers {kd : Nat} {sb : Bool} {S : World → Value → Prop} {o : Oper} {a : Act} (b : List Deferred) : Spec P w0 kd sb R o { a with defers := b } S ↔ Spec P w0 kd sb R o a S := by
  unfold Spec
  split
  · rw [mkR_defers b]
  · simp only [pAt_defers b]
theorem Spec_unique {kd : Nat} {sb : Bool} {S S' : World → Value → Prop} {o : Oper} {a : Act} (h : Spec P w0 kd sb R o a S) (k : Spec P w0 kd sb R o a S') {w : World} {v : Value} (hv : S w v) : S' w v := by
  unfold Spec at h k
  split at h
  · rename_i hc
    rw [if_pos hc] at k
    rw [k.1, ← h.1]
    exact hv
  · rename_i hc
    rw [if_neg hc] at k
    obtain ⟨ob, F, rfl, -, h⟩ := h
    obtain ⟨ob', F', rfl, -, k⟩ := k
    obtain ⟨rfl, hF⟩ := pAt_unique h k
    obtain ⟨g, hg, rfl⟩ := hv
    exact ⟨g, hg, hF g w hg⟩
theorem Spec_up {kd : Nat} {sb : Bool} {S : World → Value → Prop} {o : Oper} {a : Act} (h : Spec P w0 kd sb R o a S) {w w' : World} {v : Value} (ha : Aft w w') (hv : S w v) : S w' v := by
  unfold Spec at h
  split at h
  · obtain ⟨rfl, h, -⟩ := h
    exact h _ _ _ ha hv
  · obtain ⟨ob, F, rfl, -, -⟩ := h
    obtain ⟨g, hg, rfl⟩ := hv
    exact ⟨g, hg.aft ha, rfl⟩
theorem Spec_zero {sb : Bool} {S : World → Value → Prop} {o : Oper} {a : Act} (h : Spec P w0 0 sb R o a S) : ∃ v0, (∀ w, S w v0) ∧ ∀ w v, S w v → v = v0 := by
  unfold Spec at h
  rw [if_neg (by simp)] at h
  obtain ⟨ob, F, rfl, hz, h⟩ := h
  obtain rfl := hz rfl
  refine ⟨F 0, fun w => ⟨0, trivial, rfl⟩, fun w v hv => ?_⟩
  obtain ⟨g, -, rfl⟩ := hv
  exact qAt_unique (h w0 (Aft.refl _) g) (h w0 (Aft.refl _) 0)
theorem Spec_now {kd : Nat} {sb : Bool} {S : World → Value → Prop} {o : Oper} {a : Act} (h : Spec P w0 kd sb R o a S) {w : World} (hC : Aft w0 w) : ∃ w1 v, Aft w w1 ∧ S w1 v := by
  unfold Spec at h
  split at h
  · obtain ⟨rfl, -, h⟩ := h
    obtain ⟨v, w2, -, h2, h3⟩ := h w hC
    exact ⟨w2, v, h2, h3⟩
  · obtain ⟨ob, F, rfl, -, -⟩ := h
    obtain ⟨w1, hw, g, hg⟩ := holds_now hC ob
    exact ⟨w1, F g, hw, g, hg, rfl⟩
theorem Spec_wp {kd : Nat} {sb : Bool} {S : World → Value → Prop} {o : Oper} {a : Act} {K : Act → World → Prop} (h : Spec P w0 kd sb R o a S) {w : World} (hC : Aft w0 w) (hk : ∀ w1 v, Aft w w1 → S w1 v → K (a.put o.dst v) w1) : o.wp P a w K noOut := by
  unfold Spec at h
  split at h
  · obtain ⟨rfl, -, h⟩ := h
    obtain ⟨v, w2, h1, h2, h3⟩ := h w hC
    unfold Oper.wp
    rw [h1]
    exact hk w2 v h2 h3
  · obtain ⟨ob, F, rfl, -, hv⟩ := h
    cases ob with
    | none => exact qAt_wp (hv w hC 0) (hk w _ (Aft.refl _) ⟨0, trivial, rfl⟩)
    | some obj =>
      have hf := hv w hC
      unfold pAt fAt at hf
      unfold Oper.wp
      rw [hf]
      exact hk _ _ (Aft.alloc _ _) ⟨_, ⟨Below.size hC, heap_alloc_new _ _⟩, rfl⟩
/-- One operation of the prefix. -/
def stepG (P : Program) (ops : Array Oper) (w0 : World) (sp : Nat) (R : World → Value → Prop) (Kd : Nat → Nat) (i : Nat) (o : Oper) (K : Act → World → Prop) (a : Act) (w : World) : Prop :=
  if Region.wanted o (yielded ops a.tmps) = true then
    (if 2 ≤ Kd i then ∀ w1, Aft w w1 → o.wp P a w1 (fun a' w' => Leaves w0 (Kd i) w1 w' ∧ K a' w') noOut
     else ∃ S, Spec P w0 (Kd i) (i == sp) R o a S ∧ ∀ w1 v, Aft w w1 → S w1 v → K (a.put o.dst v) w1)
  else K (a.put o.dst undef) w
theorem stepG_up {i : Nat} {o : Oper} {K : Act → World → Prop} (hK : Up K) : Up (stepG P ops w0 sp R Kd i o K) := by
  intro a w w1 hw h
  unfold stepG at *
  split
  · rename_i hg
    rw [if_pos hg] at h
    split
    · rename_i he
      rw [if_pos he] at h
      exact fun w2 h2 => h w2 (hw.trans h2)
    · rename_i he
      rw [if_neg he] at h
      obtain ⟨S, hS, h2⟩ := h
      exact ⟨S, hS, fun w2 v hw2 hv => h2 w2 v (hw.trans hw2) hv⟩
  · rename_i hg
    rw [if_neg hg] at h
    exact hK _ _ _ hw h
theorem stepG_mono {i : Nat} {o : Oper} {K K' : Act → World → Prop} (h : ∀ a w, Aft w0 w → K a w → K' a w) {a : Act} {w : World} (hC : Aft w0 w) (hs : stepG P ops w0 sp R Kd i o K a w) : stepG P ops w0 sp R Kd i o K' a w := by
  unfold stepG at *
  split
  · rename_i hw
    rw [if_pos hw] at hs
    split
    · rename_i he
      rw [if_pos he] at hs
      exact fun w1 h1 => Oper.wp_mono (fun a w ⟨c, k⟩ => ⟨c, h a w (c.base (hC.trans h1)) k⟩) (hs w1 h1)
    · rename_i he
      rw [if_neg he] at hs
      obtain ⟨S, hS, h2⟩ := hs
      exact ⟨S, hS, fun w1 v hw1 hv => h _ _ (hC.trans hw1) (h2 w1 v hw1 hv)⟩
  · rename_i hw
    rw [if_neg hw] at hs
    exact h _ _ hC hs
theorem stepG_swap {i j : Nat} {oi oj : Oper} (hsi : ∀ cs b, oi.op ≠ .select cs b) (hsj : ∀ cs b, oj.op ≠ .select cs b) (hap : oi.apart ops oj = true) (hE : (2 ≤ Kd j → Kd i = 0) ∧ (Kd i = 3 → Kd j = 0))
    {K : Act → World → Prop} {a : Act} {w : World} (hC : Aft w0 w) (hK : Up K) (h : stepG P ops w0 sp R Kd i oi (stepG P ops w0 sp R Kd j oj K) a w) : stepG P ops w0 sp R Kd j oj (stepG P ops w0 sp R Kd i oi K) a w := by
  obtain ⟨h1, h2, h3⟩ := Oper.apart_spec hap
  have h2' : ∀ d, oj.dst = some d → oi.dst ≠ some d := fun d hd he => h2 d he hd
  have wj : ∀ (a : Act) v, Region.wanted oj (yielded ops (a.put oi.dst v).tmps) = Region.wanted oj (yielded ops a.tmps) := fun a v => wanted_put oj a oi.dst v h1
  have wi : ∀ (a : Act) v, Region.wanted oi (yielded ops (a.put oj.dst v).tmps) = Region.wanted oi (yielded ops a.tmps) := fun a v => wanted_put oi a oj.dst v h3
  have pc : ∀ (a : Act) v u, (a.put oi.dst v).put oj.dst u = (a.put oj.dst u).put oi.dst v := fun a v u => Act.put_comm a v u h2
  by_cases hwi : Region.wanted oi (yielded ops a.tmps) = true
  · by_cases hei : 2 ≤ Kd i
    · have hej : ¬ 2 ≤ Kd j := by omega
      unfold stepG at h
      rw [if_pos hwi, if_pos hei] at h
      by_cases hwj : Region.wanted oj (yielded ops a.tmps) = true
      · have key : ∀ b v w', stepG P ops w0 sp R Kd j oj K (({ a with defers := b } : Act).put oi.dst v) w' → ∃ S, Spec P w0 (Kd j) (j == sp) R oj a S ∧ ∀ w1 u, Aft w' w1 → S w1 u → K ((({ a with defers := b } : Act).put oi.dst v).put oj.dst u) w1 := by
          intro b v w' hs
          unfold stepG at hs
          rw [if_pos (by rw [wj]; exact hwj), if_neg hej] at hs
          obtain ⟨S, hS, hk⟩ := hs
          exact ⟨S, (Spec_defers b).1 ((Spec_put (ops := ops) hsj h1).1 hS), hk⟩
        obtain ⟨b, v, w', hs⟩ := wp_some (h w (Aft.refl _))
        obtain ⟨S, hS, _⟩ := key b v w' hs.2
        unfold stepG
        rw [if_pos hwj, if_neg hej]
        refine ⟨S, hS, fun w1 u hw1 hu => ?_⟩
        rw [if_pos (by rw [wi]; exact hwi), if_pos hei]
        intro w2 hw2
        refine (wp_put (ops := ops) hsi h3 h2').2 (wp_mono_put (fun b v w' hs => ?_) (h w2 (hw1.trans hw2)))
        obtain ⟨hc, hs⟩ := hs
        obtain ⟨S', hS', hk⟩ := key b v w' hs
        refine ⟨hc, hk w' u (Aft.refl _) (Spec_unique hS hS' ?_)⟩
        by_cases h3 : Kd i = 3
        · rw [hE.2 h3] at hS
          obtain ⟨v0, hv0, hv1⟩ := Spec_zero hS
          rw [hv1 _ _ hu]
          exact hv0 _
        · unfold Leaves at hc
          rw [if_neg h3] at hc
          exact Spec_up hS (hw2.trans hc) hu
      · unfold stepG
        rw [if_neg hwj, if_pos (by rw [wi]; exact hwi), if_pos hei]
        intro w1 hw1
        refine (wp_put (ops := ops) hsi h3 h2').2 (wp_mono_put (fun b v w' hs => ?_) (h w1 hw1))
        obtain ⟨hc, hs⟩ := hs
        rw [if_neg (by rw [wj]; exact hwj)] at hs
        exact ⟨hc, hs⟩
    · unfold stepG at h
      rw [if_pos hwi, if_neg hei] at h
      obtain ⟨S, hS, h⟩ := h
      by_cases hwj : Region.wanted oj (yielded ops a.tmps) = true
      · by_cases hej : 2 ≤ Kd j
        · have hki : Kd i = 0 := hE.1 hej
          have hS0 := hS
          rw [hki] at hS0
          obtain ⟨v0, hv0, hv1⟩ := Spec_zero hS0
          unfold stepG
          rw [if_pos hwj, if_pos hej]
          intro w1 hw1
          have h4 := h w1 v0 hw1 (hv0 _)
          rw [if_pos (by rw [wj]; exact hwj), if_pos hej] at h4
          refine wp_mono_put (fun b u w' hs => ?_) ((wp_put (ops := ops) hsj h1 h2).1 (h4 w1 (Aft.refl _)))
          obtain ⟨hc, hk⟩ := hs
          refine ⟨hc, ?_⟩
          rw [if_pos (by rw [wi]; exact hwi), if_neg hei]
          refine ⟨S, (Spec_put (ops := ops) hsi h3).2 ((Spec_defers b).2 hS), fun w2 v hw2 hv => ?_⟩
          rw [hv1 _ _ hv]
          exact hK _ _ _ hw2 hk
        · obtain ⟨wn, vn, hwn, hvn⟩ := Spec_now hS hC
          have h4 := h wn vn hwn hvn
          rw [if_pos (by rw [wj]; exact hwj), if_neg hej] at h4
          obtain ⟨Sj, hj1, _⟩ := h4
          have hj2 := (Spec_put (ops := ops) hsj h1).1 hj1
          unfold stepG
          rw [if_pos hwj, if_neg hej]
          refine ⟨Sj, hj2, fun w1 u hw1 hu => ?_⟩
          rw [if_pos (by rw [wi]; exact hwi), if_neg hei]
          refine ⟨S, (Spec_put (ops := ops) hsi h3).2 hS, fun w2 v hw2 hv => ?_⟩
          have h5 := h w2 v (hw1.trans hw2) hv
          rw [if_pos (by rw [wj]; exact hwj), if_neg hej] at h5
          obtain ⟨Sj', hj3, hj4⟩ := h5
          rw [← pc]
          exact hj4 w2 u (Aft.refl _) (Spec_unique hj2 ((Spec_put (ops := ops) hsj h1).1 hj3) (Spec_up hj2 hw2 hu))
      · unfold stepG
        rw [if_neg hwj, if_pos (by rw [wi]; exact hwi), if_neg hei]
        refine ⟨S, (Spec_put (ops := ops) hsi h3).2 hS, fun w2 v hw2 hv => ?_⟩
        have h5 := h w2 v hw2 hv
        rw [if_neg (by rw [wj]; exact hwj)] at h5
        rw [← pc]
        exact h5
  · unfold stepG at h
    rw [if_neg hwi] at h
    unfold stepG
    by_cases hwj : Region.wanted oj (yielded ops a.tmps) = true
    · rw [if_pos (by rw [wj]; exact hwj)] at h
      rw [if_pos hwj]
      by_cases hej : 2 ≤ Kd j
      · rw [if_pos hej] at h ⊢
        intro w1 hw1
        refine wp_mono_put (fun b u w' hs => ?_) ((wp_put (ops := ops) hsj h1 h2).1 (h w1 hw1))
        obtain ⟨hc, hk⟩ := hs
        refine ⟨hc, ?_⟩
        rw [if_neg (by rw [wi]; exact hwi)]
        exact hk
      · rw [if_neg hej] at h ⊢
        obtain ⟨S, hS, hk⟩ := h
        refine ⟨S, (Spec_put (ops := ops) hsj h1).1 hS, fun w2 u hw2 hu => ?_⟩
        rw [if_neg (by rw [wi]; exact hwi), ← pc]
        exact hk w2 u hw2 hu
    · rw [if_neg (by rw [wj]; exact hwj)] at h
      rw [if_neg hwj, if_neg (by rw [wi]; exact hwi), ← pc]
      exact h
/-- The prefix, in the order of the list; T behind it. -/
def wpGs (P : Program) (ops : Array Oper) (w0 : World) (sp : Nat) (R : World → Value → Prop) (Kd : Nat → Nat) (T : Act → World → Prop) : List Nat → Act → World → Prop
  | [], a, w => T a w
  | i :: l, a, w => match ops[i]? with
    | some o => stepG P ops w0 sp R Kd i o (wpGs P ops w0 sp R Kd T l) a w
    | none => False
theorem wpGs_up {T : Act → World → Prop} (hT : Up T) : ∀ l : List Nat, Up (wpGs P ops w0 sp R Kd T l)
  | [] => hT
  | i :: l => by
    intro a w w1 hw h
    simp only [wpGs] at h ⊢
    cases hi : ops[i]? with
    | none => rw [hi] at h; exact h.elim
    | some o =>
      rw [hi] at h
      exact stepG_up (wpGs_up hT l) a w w1 hw h
theorem wpGs_front {T : Act → World → Prop} (hT : Up T) (hs : ∀ (j : Nat) (o : Oper) cs b, ops[j]? = some o → o.op ≠ .select cs b) {j : Nat} {oj : Oper} (hj : ops[j]? = some oj) : ∀ (p q : List Nat) (a : Act) (w : World),
    (∀ i ∈ p, ∀ oi, ops[i]? = some oi → oi.apart ops oj = true ∧ ((2 ≤ Kd j → Kd i = 0) ∧ (Kd i = 3 → Kd j = 0))) → Aft w0 w → wpGs P ops w0 sp R Kd T (p ++ j :: q) a w → stepG P ops w0 sp R Kd j oj (wpGs P ops w0 sp R Kd T (p ++ q)) a w
  | [], q, a, w, _, _, h => by simpa [wpGs, hj] using h
  | i :: p, q, a, w, hp, hC, h => by
    simp only [List.cons_append, wpGs] at h
    cases hi : ops[i]? with
    | none => rw [hi] at h; exact h.elim
    | some oi =>
      rw [hi] at h
      simp only at h
      obtain ⟨hap, hE⟩ := hp i (by simp) oi hi
      have ih := stepG_mono (fun a w hc hk => wpGs_front hT hs hj p q a w (fun x hx => hp x (by simp [hx])) hc hk) hC h
      have := stepG_swap (hs i oi · · hi) (hs j oj · · hj) hap hE hC (wpGs_up hT (p ++ q)) ih
      refine stepG_mono (fun a w _ hk => ?_) hC this
      simp only [List.cons_append, wpGs, hi]
      exact hk
theorem stepG_wpOp {i : Nat} {o : Oper} (hi : ops[i]? = some o) {K K' : Act → World → Prop} {Q : Exit → Act → World → Prop} (h : ∀ a w, Aft w0 w → K a w → K' a w) {a : Act} {w : World} (hC : Aft w0 w) (hs : stepG P ops w0 sp R Kd i o K a w) : wpOp P ops Q i K' a w := by
  unfold stepG at hs
  unfold wpOp
  simp only [hi]
  split
  · rename_i hw
    rw [if_pos hw] at hs
    by_cases he : 2 ≤ Kd i
    · rw [if_pos he] at hs
      exact .inl (wp_noOut (Oper.wp_mono (fun a w ⟨c, k⟩ => h a w (c.base hC) k) (hs w (Aft.refl _))))
    · rw [if_neg he] at hs
      obtain ⟨S, hS, hk⟩ := hs
      exact .inl (wp_noOut (Spec_wp hS hC fun w1 v hw1 hv => h _ _ (hC.trans hw1) (hk w1 v hw1 hv)))
  · rename_i hw
    rw [if_neg hw] at hs
    exact h _ _ hC hs
/-- The prefix, in whatever order. -/
theorem lexG_prefix {M : Array Nat} {N : Nat} {Q : Exit → Act → World → Prop} (hs : Region.noSelect ops = true) (hM : maskOk ops M = true) (hp : pairsOk ops (fun i => Nat.ble 2 (Kd i)) N M = true) (hF : pairsF ops Kd M = true) (hN : N ≤ ops.size) : ∀ (fuel : Nat) (listed : Array Bool) (a : Act) (w : World), listed.size = ops.size → Closed ops listed →
    (∀ i, N ≤ i → i < ops.size → listed.getD i false = false) → Aft w0 w → (waiting listed N).length + (ops.size - N) ≤ fuel →
    wpGs P ops w0 sp R Kd (fun a w => ∀ w1, Aft w w1 → wpOps P ops Q (List.range' N (ops.size - N)) a w1) (waiting listed N) a w → wpAny P .any ops Q fuel listed a w := by
  have hT : Up (fun a w => ∀ w1, Aft w w1 → wpOps P ops Q (List.range' N (ops.size - N)) a w1) := fun a w w1 hw h w2 h2 => h w2 (hw.trans h2)
  intro fuel
  induction fuel with
  | zero =>
    intro listed a w hz hc hhi hC hf h
    have h0 : waiting listed N = [] := List.eq_nil_of_length_eq_zero (by omega)
    rw [h0] at h
    refine lex_tail (N := N) hM hp 0 N listed a w hz hc (fun i hi hi' => ?_) hhi (Nat.le_refl _) (by omega) (h w (Aft.refl _))
    cases hl : listed.getD i false with
    | true => rfl
    | false => have := (mem_waiting (listed := listed) (N := N) (by omega)).2 ⟨hi, hl⟩; rw [h0] at this; cases this
  | succ fuel ih =>
    intro listed a w hz hc hhi hC hf h
    cases hw : waiting listed N with
    | nil =>
      rw [hw] at h
      refine lex_tail (N := N) hM hp (fuel + 1) N listed a w hz hc (fun i hi hi' => ?_) hhi (Nat.le_refl _) (by rw [hw] at hf; simpa using hf) (h w (Aft.refl _))
      cases hl : listed.getD i false with
      | true => rfl
      | false => have := (mem_waiting (listed := listed) (N := N) (by omega)).2 ⟨hi, hl⟩; rw [hw] at this; cases this
    | cons k0 rest =>
      have hk0 := (mem_waiting (listed := listed) (N := N) (i := k0) (by omega)).1 (by rw [hw]; simp)
      have hsort := waiting_sorted listed N
      have hlow : ∀ i, i < k0 → listed.getD i false = true := by
        intro i hi
        cases hl : listed.getD i false with
        | true => rfl
        | false =>
          have hm := (mem_waiting (listed := listed) (N := N) (i := i) (by omega)).2 ⟨by omega, hl⟩
          rw [hw] at hm hsort
          rw [List.pairwise_cons] at hsort
          rcases List.mem_cons.1 hm with rfl | hm
          · omega
          · have := hsort.1 i hm; omega
      have hk0s : k0 < ops.size := by omega
      have ho0 : ops[k0]? = some ops[k0] := Array.getElem?_eq_getElem hk0s
      have hr : k0 ∈ Region.ready .any ops listed := mem_wait hz ho0 hk0.2 fun e he hb => hlow _ (edges_back hM ho0 e he hb)
      refine ⟨fun h0 => (by rw [h0] at hr; cases hr), fun i hi => ?_⟩
      obtain ⟨oi, hio, h0, he⟩ := ready_spec hz hi
      have hi' : i < ops.size := (Array.getElem?_eq_some_iff.1 hio).1
      have hbits : ∀ j, j < ops.size → (M.getD i 0).testBit j = true → listed.getD j false = true := mask_listed hM hc i oi hio he
      have hiN : i < N := by
        rcases Nat.lt_or_ge i N with h' | h'
        · exact h'
        · exfalso
          rcases pair_of hp hi' (show k0 < i by omega) with hb | ⟨hb, _⟩
          · have := hbits k0 (by omega) hb
            rw [hk0.2] at this
            cases this
          · omega
      have hmem := (mem_waiting (listed := listed) (N := N) (i := i) (by omega)).2 ⟨hiN, h0⟩
      obtain ⟨p, q, hpq⟩ := List.append_of_mem hmem
      have hfront := wpGs_front (Kd := Kd) hT (Region.noSelect_spec hs) hio p q a w (fun j hj oj hjo => by
        have hji : j < i := by
          have hs' := hsort
          rw [hpq, List.pairwise_append] at hs'
          exact hs'.2.2 j hj i (by simp)
        have hj0 := ((mem_waiting (listed := listed) (N := N) (i := j) (by omega)).1 (by rw [hpq]; simp [hj])).2
        rcases pair_of hp hi' hji with hb | ⟨_, hb⟩
        · have := hbits j (by omega) hb
          rw [hj0] at this
          cases this
        · refine ⟨(hb oj oi hjo hio).1, ?_⟩
          rcases pairF_of hF hi' hji with hb | hb
          · have := hbits j (by omega) hb
            rw [hj0] at this
            cases this
          · exact hb) hC (by rw [← hpq]; exact h)
      have hset := waiting_set (listed := listed) (N := N) (by omega) hpq
      refine stepG_wpOp hio (fun a w hc' hk => ih _ a w (by simp [hz]) (closed_set hc hio he) (fun j hj hjs => ?_) hc' ?_ ?_) hC hfront
      · rw [getD_set_ne false (by omega)]; exact hhi j hj hjs
      · rw [hset]; rw [hpq] at hf; simp at hf ⊢; omega
      · rw [hset]; exact hk
/-- The walk itself. -/
def wpGx (P : Program) (ops : Array Oper) (w0 : World) (sp : Nat) (R : World → Value → Prop) (Kd : Nat → Nat) (Q : Exit → Act → World → Prop) : Nat → Nat → List Oper → Act → World → Prop
  | 0, _, l, a, w => ∀ w1, Aft w w1 → wpList P ops Q l a w1
  | n + 1, k, o :: l, a, w => stepG P ops w0 sp R Kd k o (wpGx P ops w0 sp R Kd Q n (k + 1) l) a w
  | _ + 1, _, [], _, _ => False
theorem wpGx_up {Q : Exit → Act → World → Prop} : ∀ (n k : Nat) (l : List Oper), Up (wpGx P ops w0 sp R Kd Q n k l)
  | 0, _, l => fun a w w1 hw h w2 h2 => h w2 (hw.trans h2)
  | n + 1, k, o :: l => fun a w w1 hw h => by simp only [wpGx] at h ⊢; exact stepG_up (wpGx_up n (k + 1) l) a w w1 hw h
  | _ + 1, _, [] => fun _ _ _ _ h => by simp only [wpGx] at h
theorem wpGs_of_wpGx {Q : Exit → Act → World → Prop} : ∀ (n k : Nat) (l : List Oper) (a : Act) (w : World), Aft w0 w → (∀ j, l[j]? = ops[k + j]?) → n ≤ l.length → k + l.length = ops.size → wpGx P ops w0 sp R Kd Q n k l a w →
    wpGs P ops w0 sp R Kd (fun a w => ∀ w1, Aft w w1 → wpOps P ops Q (List.range' (k + n) (ops.size - (k + n))) a w1) (List.range' k n) a w
  | 0, k, l, a, w, hC, hl, _, hz, h => by
    simp only [List.range'_zero, wpGs, Nat.add_zero]
    simp only [wpGx] at h
    intro w1 hw1
    rw [show ops.size - k = l.length by omega, wpOps_eq_wpList l k hl]
    exact h w1 hw1
  | n + 1, k, [], a, w, _, _, hn, _, _ => by simp at hn
  | n + 1, k, o :: l, a, w, hC, hl, hn, hz, h => by
    have h0 : ops[k]? = some o := by simpa using (hl 0).symm
    simp only [wpGx] at h
    rw [List.range'_succ]
    simp only [wpGs, h0]
    have ih := fun a w hC => wpGs_of_wpGx (Q := Q) n (k + 1) l a w hC (fun j => by have := hl (j + 1); simpa [Nat.add_assoc, Nat.add_comm 1 j] using this) (by simpa using hn) (by simp at hz; omega)
    rw [show k + (n + 1) = k + 1 + n by omega]
    exact stepG_mono ih hC h
/-- **A REGION THAT DRAWS ITS ORDER IS WALKED ONCE.** Kd: 0 reads, 1 makes a block, 2 turns the world. -/
theorem wp_region_lexG {id : Nat} {Q : Exit → Act → World → Prop} {a : Act} {w : World} {l : List Oper} (sp : Nat) (R : World → World → Value → Prop) (Kd : Nat → Nat) (n : Nat) (hm : P.follows .mixedOrders = true)
    (hB : lexOKF l.toArray Kd n (Region.before l.toArray) = true) (h : ∀ w0, w0 = w.drew → wpGx P l.toArray w0 sp (R w0) Kd Q n 0 l a w0) : (Code.region id l.toArray true).wp P Q a w := by
  have h := h w.drew rfl
  simp only [lexOKF, lexOK, Bool.and_eq_true, decide_eq_true_eq] at hB
  obtain ⟨⟨⟨⟨hs, hM⟩, hp⟩, hN⟩, hF⟩ := hB
  have hN' : n ≤ l.length := by simpa using hN
  refine wp_region_any hm ?_
  have hw : waiting (Array.replicate l.toArray.size false) n = List.range n := by
    unfold waiting
    rw [List.filter_eq_self]
    intro i hi
    rw [List.mem_range] at hi
    have : i < l.length := by omega
    simp [this]
  have h1 := wpGs_of_wpGx (Kd := Kd) (sp := sp) (R := R w.drew) (ops := l.toArray) n 0 l a _ (Aft.refl _) (by simp) hN' (by simp) h
  rw [Nat.zero_add, ← List.range_eq_range'] at h1
  refine lexG_prefix (Kd := Kd) (sp := sp) (R := R w.drew) (w0 := w.drew) hs hM hp hF hN _ _ a _ (by simp) ?_ ?_ (Aft.refl _) ?_ ?_
  · intro k o _ hl
    exfalso
    have hk : ¬ (Array.replicate l.toArray.size false).getD k false = true := by
      by_cases hk : k < l.length <;> simp [hk]
    exact hk hl
  · intro i _ hi
    have hi' : i < l.length := by simpa using hi
    simp [hi']
  · rw [hw]; simp; omega
  · rw [hw]; exact h1
section
variable {Q : Exit → Act → World → Prop} {n k : Nat} {o : Oper} {l : List Oper} {a : Act} {w : World}
theorem lg_skip (_ : wpQuiet P ops (fun _ => False) (fun _ => True) [o] a) (hw : Region.wanted o (yielded ops a.tmps) = false) (h : wpGx P ops w0 sp R Kd Q n (k + 1) l (a.put o.dst undef) w) : wpGx P ops w0 sp R Kd Q (n + 1) k (o :: l) a w := by
  simp only [wpGx, stepG, hw]
  exact h
theorem Spec_none {sb : Bool} {v : Value} (h : ∀ w1, Aft w0 w1 → qAt P o a w1 v) : Spec P w0 0 sb R o a (fun w u => ∃ g : Nat, holds w0 g w none ∧ u = v) := by
  unfold Spec
  rw [if_neg (by simp)]
  exact ⟨none, fun _ => v, rfl, fun _ => rfl, fun w1 hw1 _ => h w1 hw1⟩
theorem lg_quiet (hk : Kd k = 0) (_ : wpQuiet P ops (fun _ => False) (fun _ => True) [o] a) (hw : Region.wanted o (yielded ops a.tmps) = true) (hv : isV o.op = true)
    (h : ∀ K : Act → Prop, (∀ a', wpGx P ops w0 sp R Kd Q n (k + 1) l a' w → K a') → o.quiet P a (fun w' => ∃ u : Later w0.heap.size w0, w' = u.w) K) : wpGx P ops w0 sp R Kd Q (n + 1) k (o :: l) a w := by
  obtain ⟨v, hq, hk2⟩ := h (fun a' => wpGx P ops w0 sp R Kd Q n (k + 1) l a' w) fun _ h => h
  simp only [wpGx, stepG, hw, if_true, hk]
  rw [if_neg (by omega)]
  exact ⟨_, Spec_none fun w' hw' => qAt_of_quietAt hv (hq w' ⟨⟨w', hw'⟩, rfl⟩), fun w1 u hw1 ⟨_, _, hu⟩ => by rw [hu]; exact wpGx_up _ _ _ _ _ _ hw1 hk2⟩
theorem lg_val (hk : Kd k = 0) (hw : Region.wanted o (yielded ops a.tmps) = true) (v : Value) (hv : ∀ w1, Aft w0 w1 → (execOp a.eval o).run P w1 = .ok (.value v) w1) (h : wpGx P ops w0 sp R Kd Q n (k + 1) l (a.put o.dst v) w) : wpGx P ops w0 sp R Kd Q (n + 1) k (o :: l) a w := by
  simp only [wpGx, stepG, hw, if_true, hk]
  rw [if_neg (by omega)]
  exact ⟨_, Spec_none fun w' hw' => .inl (hv w' hw'), fun w1 u hw1 ⟨_, _, hu⟩ => by rw [hu]; exact wpGx_up _ _ _ _ _ _ hw1 h⟩
theorem lg_fresh (obj : Obj) (F : Nat → Value) (hk : Kd k = 1) (hsp : (k == sp) = false) (hw : Region.wanted o (yielded ops a.tmps) = true) (hv : ∀ w1, (execOp a.eval o).run P w1 = .ok (.value (F w1.heap.size)) (w1.alloc obj))
    (h : ∀ w1 g, Aft w w1 → w0.heap.size ≤ g → w1.heap[g]? = some obj → wpGx P ops w0 sp R Kd Q n (k + 1) l (a.put o.dst (F g)) w1) : wpGx P ops w0 sp R Kd Q (n + 1) k (o :: l) a w := by
  simp only [wpGx, stepG, hw, if_true, hk]
  rw [if_neg (by omega)]
  refine ⟨fun w v => ∃ g, holds w0 g w (some obj) ∧ v = F g, ?_, fun w1 v hw1 ⟨g, hg, hv⟩ => by rw [hv]; exact h w1 g hw1 hg.1 hg.2⟩
  unfold Spec
  rw [if_neg (by rw [hsp]; simp)]
  exact ⟨some obj, F, rfl, (fun h => by cases h), fun w1 _ => hv w1⟩
/-- The special operation. -/
theorem lg_spec (hk : Kd k = 1) (hsp : (k == sp) = true) (hw : Region.wanted o (yielded ops a.tmps) = true) (hR : mkR P w0 R o a)
    (h : ∀ w1 v, Aft w w1 → R w1 v → wpGx P ops w0 sp R Kd Q n (k + 1) l (a.put o.dst v) w1) : wpGx P ops w0 sp R Kd Q (n + 1) k (o :: l) a w := by
  simp only [wpGx, stepG, hw, if_true, hk]
  rw [if_neg (by omega)]
  refine ⟨R, ?_, h⟩
  unfold Spec
  rw [if_pos ⟨hsp, rfl⟩]
  exact ⟨rfl, hR⟩
theorem lg_eff (hk : Kd k = 2) (_ : wpQuiet P ops (fun _ => False) (fun _ => True) [o] a) (hw : Region.wanted o (yielded ops a.tmps) = true)
    (h : ∀ w1, Aft w w1 → ∀ K : Act → World → Prop, (∀ a' w', (Aft w1 w' ∧ wpGx P ops w0 sp R Kd Q n (k + 1) l a' w') → K a' w') → o.wp P a w1 K noOut) : wpGx P ops w0 sp R Kd Q (n + 1) k (o :: l) a w := by
  simp only [wpGx, stepG, hw, if_true, hk, Nat.le_refl]
  exact fun w1 hw1 => h w1 hw1 _ fun _ _ h => ⟨by unfold Leaves; rw [if_neg (by decide)]; exact h.1, h.2⟩
theorem lg_store (hk : Kd k = 3) (hw : Region.wanted o (yielded ops a.tmps) = true) (ty : TypeId) (x y : Operand) (ho : o.op = .store ty x y)
    (g : Nat) (cells : Array Value) (hx : a.eval x = .pointer (some ⟨g, 0, none⟩)) (hy : a.eval y = .agg cells)
    (t : TypeId) (old : Array Value) (hC : Aft w0 w) (h0 : w0.heap.size ≤ g) (hg : w.heap[g]? = some (.cells old t (0, 0))) (hi : (P.info? ty).map (·.size) = some cells.size)
    (hold : old.size = cells.size) (h1 : cells.all (·.oneCell') = true)
    (h : ∀ w2, Hid (w2.heap[g]? = some (.cells cells t (0, 0))) → Aft w0 w2 → Hid (∀ k, k < w.heap.size → k ≠ g → w2.heap[k]? = w.heap[k]?) → wpGx P ops w0 sp R Kd Q n (k + 1) l (a.put o.dst undef) w2) : wpGx P ops w0 sp R Kd Q (n + 1) k (o :: l) a w := by
  simp only [wpGx, stepG, hw, if_true, hk]
  rw [if_pos (by omega)]
  intro w1 hw1
  refine wp_store_row ty x y ho g cells hx hy t old (hw1.get hg) hi hold h1 ?_
  have hb : Aft w0 (w1.setRow g cells) := below_setRow (hC.trans hw1) h0 _
  refine ⟨by unfold Leaves; rw [if_pos rfl]; exact hb, h _ (show _ = _ from setRow_heap _ _ _ _ _ _ (hw1.get hg)) hb (show _ from fun k hk hne => ?_)⟩
  rw [setRow_other w1 g k _ hne]
  exact Below.block hw1 k hk
theorem lg_done (h : ∀ w1, Aft w w1 → wpList P ops Q l a w1) : wpGx P ops w0 sp R Kd Q 0 k l a w := h
end
end
attribute [irreducible] wpGx
end Go.Proofs.YtdbhlajajdlmfaaDoor
/- draw.Many: a list of keys, drawn one behind the other. -/
namespace Go.Proofs.YtdbhlajajdlmfaaDoor
open Go Go.RowKit
set_option linter.unusedSimpArgs false
/-- A slice of keys of its own: its row stands from base on. -/
def OwnK (w : World) (base : Nat) (v : Value) (ks : List (List (BitVec 8))) : Prop := (∀ k ∈ ks, k.length = 32) ∧ w.ownsRow base 30 32 v ks.length (ksL ks)
theorem OwnK.nil (w : World) (base : Nat) : OwnK w base (.slice none 0 0) [] := ⟨fun _ h => (by simp at h), World.ownsRow_nil w base _ 32⟩
theorem OwnK.lt {w : World} {base : Nat} {v : Value} {ks : List (List (BitVec 8))} (h : OwnK w base v ks) : ∀ g, v.ownBlock = some g → base ≤ g ∧ g < w.heap.size := h.2.lt
theorem OwnK.keep {w w' : World} {base : Nat} {v : Value} {ks : List (List (BitVec 8))} (h : OwnK w base v ks) (hk : ∀ g, v.ownBlock = some g → w'.heap[g]? = w.heap[g]?) : OwnK w' base v ks := by
  refine ⟨h.1, h.2.1, ?_⟩
  rcases h.2.2 with hn | ⟨g, cap, cur, rfl, hb, hg, hr⟩
  · exact .inl hn
  · exact .inr ⟨g, cap, cur, rfl, hb, (hk g rfl).trans hg, hr⟩
theorem OwnK.aft {w w' : World} {base : Nat} {v : Value} {ks : List (List (BitVec 8))} (h : OwnK w base v ks) (ha : Aft w w') : OwnK w' base v ks := h.keep fun g hg => ha.block g (h.lt g hg).2
theorem OwnK.mono {w : World} {base base' : Nat} {v : Value} {ks : List (List (BitVec 8))} (h : OwnK w base v ks) (hb : base' ≤ base) : OwnK w base' v ks := ⟨h.1, ownsRow_mono h.2 hb⟩
theorem OwnK.rd {w : World} {base : Nat} {v : Value} {ks : List (List (BitVec 8))} (h : OwnK w base v ks) : RdK w v ks := by
  rcases h.2.2 with ⟨rfl, hn⟩ | ⟨g, cap, cur, rfl, hb, hg, hn, hm, hc, ht⟩
  · have : ks = [] := List.eq_nil_of_length_eq_zero hn
    subst this
    exact RdK.nil w
  · refine ⟨some ⟨g, 0, none⟩, cap, rfl, hn, by simpa [maxLen] using hm, (fun h => by cases h), h.1, fun ad ha i hi => ?_⟩
    cases ha
    have hk : (ks.getD i []).length = 32 := by
      rw [List.getD_eq_getElem?_getD, List.getElem?_eq_getElem hi]
      exact h.1 _ (List.getElem_mem hi)
    refine ⟨_, 32, by rw [bv_length, hk], by rw [bv_length, hk]; exact Nat.le_refl _, by omega, (fun h => by cases h), fun ad ha j u hu => ?_⟩
    cases ha
    have hj : j < 32 := by
      have := (List.getElem?_eq_some_iff.1 hu).1
      rwa [bv_length, hk] at this
    rw [Deep.add_add]
    exact h.2.cells rfl _ u ((ksL_at h.1 i j hi hj).trans hu)
theorem info_keyE : (Tryd.prog.info? 30).map (fun i => (i.zero, i.size, i.bytes)) = some (some (.agg key0), 32, 32) := by kernel_rfl
theorem wp_append_key {o : Oper} {a : Act} {w : World} {K : Act → World → Prop} {Q : Exit → Act → World → Prop} (s x : Operand) (ho : o.op = .call { callee := .builtin .append, args := #[s, x], argTypes := #[26, 26] })
    (base : Nat) (v : Value) (ks : List (List (BitVec 8))) (hs : a.eval s = v) (hown : OwnK w base v ks) (g : Nat) (hx : a.eval x = .slice (some ⟨g, 0, none⟩) 1 1) (X : List (BitVec 8)) (hX : X.length = 32) (t : TypeId) (fr : Nat × Nat) (hg : w.heap[g]? = some (.cells (bv X).toArray t fr))
    (hl : ks.length ≤ 1000000) (hbase : base ≤ w.heap.size) (h : ∀ v' w', OwnK w' base v' (ks ++ [X]) → w.grownBy w' v.ownBlock → K (a.put o.dst v') w') : o.wp Tryd.prog a w K Q := by
  obtain ⟨i, hi, hz1, hz2, hz3⟩ := info_parts info_keyE
  have hXl : (bv X).length = 32 := by rw [bv_length, hX]
  refine wp_append_own w s x 26 ho base 30 i (.agg key0) 32 32 Tryd.underlying26 hi hz1 hz2 hz3 (by kernel_rfl) (by omega) v ks.length (ksL ks) hs hown.2 ⟨g, 0, none⟩ 1 1 (bv X) hx (by rw [hXl]) (fun j u hu => ?_) (bv_one X) (by unfold maxLen; omega) (by omega) hbase ?_
  · rw [Addr.add_lit, Nat.zero_add]
    exact cell_part hg hu
  · intro v' w' k1 k2 k3
    refine h v' w' ⟨fun k hk => ?_, ?_⟩ k2
    · rcases List.mem_append.1 hk with hk | hk
      · exact hown.1 k hk
      · rw [List.mem_singleton.1 hk]; exact hX
    · rw [List.length_append, List.length_singleton, ksL_append, show ksL [X] = bv X by simp [ksL]]
      exact k1
theorem run_keySlice {X : List (BitVec 8)} (hX : X.length = 32) (w : World) : (Instr.buildSlice 26 1 #[(0, .agg (bv X).toArray)]).run Tryd.prog w = .ok (.slice (some ⟨w.heap.size, 0, none⟩) 1 1) (w.alloc (.cells (bv X).toArray 30)) := by
  rw [bv_of_len hX]
  generalize (fun i => Value.int .u8 (bn (X.getD i 0))) = f
  kernel_rfl
theorem wp_keySlice {o : Oper} {a : Act} {w : World} {K : Act → World → Prop} {Q : Exit → Act → World → Prop} (x : Operand) (ho : o.op = .buildSlice 26 1 #[(0, x)]) (X : List (BitVec 8)) (hX : X.length = 32) (hx : a.eval x = .agg (bv X).toArray)
    (h : K (a.put o.dst (.slice (some ⟨w.heap.size, 0, none⟩) 1 1)) (w.alloc (.cells (bv X).toArray 30))) : o.wp Tryd.prog a w K Q := by
  unfold Oper.wp execOp
  simp only [ho, hx, Sem.run_bind, List.map_toArray, List.map_cons, List.map_nil, run_keySlice hX w, Result.andThen_ok, Sem.run_pure]
  exact h
theorem Led.duo {w0 w : World} {a b : Nat × Obj} {L : List (Nat × Obj)} (h : Led w0 w (a :: b :: L)) : Led w0 w [a, b] := by
  refine ⟨h.aft, fun i g o hi => ?_, fun i j g k o p hij hi hj => ?_⟩
  · match i, hi with
    | 0, hi => exact h.has 0 g o hi
    | 1, hi => exact h.has 1 g o hi
    | i + 2, hi => simp at hi
  · match i, j, hi, hj, hij with
    | 0, 1, hi, hj, hij => exact h.inc 0 1 g k o p hij hi hj
    | 0, 0, _, _, hij => exact absurd hij (Nat.lt_irrefl _)
    | 1, 0, _, _, hij => exact absurd hij (by omega)
    | 1, 1, _, _, hij => exact absurd hij (Nat.lt_irrefl _)
    | i + 2, _, hi, _, _ => simp at hi
    | _, j + 2, _, hj, _ => simp at hj
theorem Led.grown {w0 w w' : World} {L : List (Nat × Obj)} {row : Option Nat} (h : Led w0 w L) (hg : w.grownBy w' row) (hrow : ∀ k, row = some k → w0.heap.size ≤ k ∧ ∀ p ∈ L, p.1 ≠ k) : Led w0 w' L := by
  refine ⟨⟨hg.os.trans h.aft.os, hg.tape.trans h.aft.tape, hg.output.trans h.aft.output, Nat.le_trans h.aft.size hg.size, fun k hk => ?_⟩, fun i g o hi => ⟨?_, (h.has i g o hi).2⟩, h.inc⟩
  · exact (hg.block k (Nat.lt_of_lt_of_le hk h.aft.size) (fun e => by have := (hrow k e.symm).1; omega)).trans (h.aft.block k hk)
  · have hm : (g, o) ∈ L := List.mem_of_getElem? hi
    exact (hg.block g (heap_lt (h.get i hi)) (fun e => (hrow g e.symm).2 _ hm rfl)).trans (h.get i hi)
def manyL (seed : List (BitVec 8)) (N j : Nat) : List (List (BitVec 8)) := (List.range j).map fun i => nxK seed (N + i)
def mnE (N : Nat) (n : Int) : Int := if N ≤ 4294967296 ∧ 0 ≤ n ∧ n ≤ 1000 then (if N + n.toNat ≤ 4294967296 then 0 else 8) else 1
def mnK (seed : List (BitVec 8)) (N : Nat) (n : Int) : List (List (BitVec 8)) := if mnE N n = 0 then manyL seed N n.toNat else []
def mnS (seed : List (BitVec 8)) (N : Nat) (n : Int) : List (BitVec 8) := if mnE N n = 0 then seed else List.replicate 32 0
def mnN (N : Nat) (n : Int) : Nat := if mnE N n = 0 then N + n.toNat else 0
/-- What is drawn. -/
def ManySays (seed : List (BitVec 8)) (N : Nat) (n : Int) (w : World) (r : Ending) (w' : World) : Prop :=
  ∃ v, r = .returned (.tuple #[v, .agg (drawsL (mnS seed N n) (mnN N n)).toArray, .int .i64 (mnE N n)]) ∧ OwnK w' w.heap.size v (mnK seed N n) ∧ Aft w w'
theorem ManySays.bad {seed : List (BitVec 8)} {N : Nat} {n : Int} {w w' : World} {e : Int} (h : mnE N n = e) (h0 : e ≠ 0) (ha : Aft w w') : ManySays seed N n w (.returned (.tuple #[.slice none 0 0, .agg (drawsL (List.replicate 32 0) 0).toArray, .int .i64 e])) w' := by
  subst h
  refine ⟨.slice none 0 0, ?_, ?_, ha⟩
  · unfold mnS mnN
    rw [if_neg h0, if_neg h0]
  · unfold mnK
    rw [if_neg h0]
    exact OwnK.nil _ _
theorem ManySays.good {seed : List (BitVec 8)} {N m : Nat} {w w' : World} {v : Value} {B : Nat} (h1 : m ≤ 1000) (h2 : N + m ≤ 4294967296) (hv : OwnK w' B v (manyL seed N m)) (hB : w.heap.size ≤ B) (ha : Aft w w') : ManySays seed N (m : Int) w (.returned (.tuple #[v, .agg (drawsL seed (N + m)).toArray, .int .i64 0])) w' := by
  have h0 : mnE N (m : Int) = 0 := by
    unfold mnE
    rw [if_pos ⟨by omega, by omega, by omega⟩, if_pos (by simpa using h2)]
  refine ⟨v, ?_, ?_, ha⟩
  · unfold mnS mnN
    rw [h0, if_pos rfl, if_pos rfl, Int.toNat_natCast]
  · unfold mnK
    rw [if_pos h0, Int.toNat_natCast]
    exact hv.mono hB
end Go.Proofs.YtdbhlajajdlmfaaDoor
/- coterieref09.Same on one list of keys, read twice. -/
namespace Go.Proofs.YtdbhlajajdlmfaaDoor
open Go Go.RowKit
theorem wp_append_keys {o : Oper} {a : Act} {w : World} {K : Act → World → Prop} (s x : Operand) (ho : o.op = .call { callee := .builtin .append, args := #[s, x], argTypes := #[26, 26] })
    (base : Nat) (v : Value) (ks : List (List (BitVec 8))) (hs : a.eval s = v) (hown : OwnK w base v ks) (vx : Value) (ls : List (List (BitVec 8))) (hx : a.eval x = vx) (hr : RdK w vx ls)
    (hl : ks.length + ls.length ≤ 1000000) (hbase : base ≤ w.heap.size) (h : ∀ v' w', OwnK w' base v' (ks ++ ls) → w.grownBy w' v.ownBlock → K (a.put o.dst v') w') : o.wp Tryd.prog a w K noOut := by
  obtain ⟨i, hi, hz1, hz2, hz3⟩ := info_parts info_keyE
  have hC := fun (ad : Addr) (n cap : Nat) (e : vx = .slice (some ad) n cap) => RdK.cells (w := w) (ad := ad) (n := n) (cap := cap) (ks := ls) (by rw [← e]; exact hr)
  obtain ⟨ao, cap, rfl, r1, r2, r3, r4, r5⟩ := hr
  have hlen : ∀ k ∈ ks ++ ls, k.length = 32 := fun k hk => by
    rcases List.mem_append.1 hk with hk | hk
    · exact hown.1 k hk
    · exact r4 k hk
  cases ao with
  | none =>
    have hc := r3 rfl
    subst hc
    have hn : ls = [] := List.eq_nil_of_length_eq_zero (by omega)
    subst hn
    refine wp_of_list (ops := #[]) (wpList_append_own_none rfl s x 26 ho base 30 i 32 Tryd.underlying26 hi v ks.length (ksL ks) hs hown.2 hx ⟨rfl, h v w ?_ (World.grownBy.refl w _)⟩)
    rw [List.append_nil]
    exact hown
  | some ad =>
    refine wp_append_own w s x 26 ho base 30 i (.agg key0) 32 32 Tryd.underlying26 hi hz1 hz2 hz3 (by kernel_rfl) (by omega) v ks.length (ksL ks) hs hown.2 ad ls.length cap (ksL ls) hx (ksL_length r4) (hC ad _ _ rfl) (ksL_one ls) (by unfold maxLen; omega) (by omega) hbase ?_
    intro v' w' k1 k2 k3
    refine h v' w' ⟨hlen, ?_⟩ k2
    rw [List.length_append, ksL_append]
    exact k1
theorem wpList_append_keys {ops : Array Oper} {rest : List Oper} {o : Oper} {a : Act} {w : World} {Q : Exit → Act → World → Prop} (hw : Region.wanted o (yielded ops a.tmps) = true) (s x : Operand) (ho : o.op = .call { callee := .builtin .append, args := #[s, x], argTypes := #[26, 26] })
    (base : Nat) (v : Value) (ks : List (List (BitVec 8))) (hs : a.eval s = v) (hown : OwnK w base v ks) (vx : Value) (ls : List (List (BitVec 8))) (hx : a.eval x = vx) (hr : RdK w vx ls)
    (hl : ks.length + ls.length ≤ 1000000) (hbase : base ≤ w.heap.size) (h : ∀ v' w', OwnK w' base v' (ks ++ ls) → w.grownBy w' v.ownBlock → wpList Tryd.prog ops Q rest (a.put o.dst v') w') : wpList Tryd.prog ops Q (o :: rest) a w := by
  unfold wpList
  rw [if_pos hw]
  exact .inl (wp_noOut (wp_append_keys s x ho base v ks hs hown vx ls hx hr hl hbase h))
set_option maxRecDepth 100000 in
set_option maxHeartbeats 2000000 in
theorem keysSame_any (v1 v2 : Value) (ks : List (List (BitVec 8))) (w : World) (h1 : RdK w v1 ks) (h2 : RdK w v2 ks) :
    Calls Tryd.prog 20 #[v1, v2] w fun r w' => r = .returned (.bool true) ∧ Aft w w' := by
  have H1 := Lib.hid h1
  have H2 := Lib.hid h2
  obtain ⟨a1, c1, rfl, hlen, -⟩ := h1.shape
  obtain ⟨a2, c2, rfl, -, -⟩ := h2.shape
  have H0 := Lib.hid (Aft.refl w)
  clear h1 h2
  go_enter Tryd.func20, Tryd.ntmps20
  go_wp2_with fail
  go_loopw [13] (fun v wr => ∃ i : Nat, i ≤ ks.length ∧ v = .int .i64 i ∧ Aft w wr) (fun v _ => ks.length - (intOf v).toNat)
  case atStart => exact ⟨0, by omega, rfl, H0.out⟩
  case round =>
    obtain ⟨i, hi, rfl, hA⟩ := hrel
    have HA := Lib.hid hA
    clear hA
    by_cases hlt : i < ks.length
    · obtain ⟨g1, o1, d1, e1, hXl, hr1⟩ := (H1.out.grow HA.out).at hlt
      cases e1
      obtain ⟨g2, o2, d2, e2, -, hr2⟩ := (H2.out.grow HA.out).at hlt
      cases e2
      have HX := Lib.hid hXl
      have HR1 := Lib.hid hr1
      have HR2 := Lib.hid hr2
      clear hXl hr1 hr2
      generalize ks.getD i [] = X at *
      have hlt' : (i : Int) < (ks.length : Nat) := by omega
      go_wp2_with fail
      refine wp_region_lexF (fun i => ([0] : List Nat).getD i 0) 9 (by kernel_rfl) (by kernel_rfl) ?_; intro wq hwr
      have HAq := Lib.hid (show Aft wr wq by rw [hwr]; exact (Below.refl _ _).drew)
      clear hwr
      repeat (first | (refine lf_skip (by go_big_quiet_skip; exact wpQuiet_nil trivial) (by kernel_rfl) ?_; simp only [Act.put, List.setIfInBounds_toArray, List.set_cons_succ, List.set_cons_zero]) | (refine lf_quiet rfl (by go_big_quiet_want; exact quiet_false (by assumption)) (by kernel_rfl) rfl ?_; intro Kx hKx; go_big_quiet_op; go_big_quiet_on))
      refine lf_load_key rfl (by kernel_rfl) (.tmp 18) rfl g1 (o1 + i * 32) rfl X (HR1.out.grow HAq.out) HX.out ?_
      simp only [Act.put, List.setIfInBounds_toArray, List.set_cons_succ, List.set_cons_zero]
      repeat (first | (refine lf_skip (by go_big_quiet_skip; exact wpQuiet_nil trivial) (by kernel_rfl) ?_; simp only [Act.put, List.setIfInBounds_toArray, List.set_cons_succ, List.set_cons_zero]) | (refine lf_quiet rfl (by go_big_quiet_want; exact quiet_false (by assumption)) (by kernel_rfl) rfl ?_; intro Kx hKx; go_big_quiet_op; go_big_quiet_on))
      refine lf_load_key rfl (by kernel_rfl) (.tmp 22) rfl g2 (o2 + i * 32) rfl X (HR2.out.grow HAq.out) HX.out ?_
      simp only [Act.put, List.setIfInBounds_toArray, List.set_cons_succ, List.set_cons_zero]
      refine lf_bin rfl (by kernel_rfl) .neq 30 30 (.tmp 19) (.tmp 23) rfl _ _ _ rfl rfl (run_neq_key X HX.out) (guard_key _ _ _ _ _) ?_
      simp only [Act.put, List.setIfInBounds_toArray, List.set_cons_succ, List.set_cons_zero]
      refine lf_done ?_
      intro wt ht
      have HAt := Lib.hid (Aft.trans HA.out (Aft.trans HAq.out ht))
      clear ht
      go_wp2_with fail
      go_roundw
      case rel => exact ⟨i + 1, by omega, by go_num, HAt.out⟩
      case measure => simp [intOf]; omega
    · obtain rfl : i = ks.length := by omega
      have hlt' : ¬ ((ks.length : Nat) : Int) < (ks.length : Nat) := by omega
      go_wp2_with fail
      go_ret
      exact ⟨rfl, HA.out⟩
end Go.Proofs.YtdbhlajajdlmfaaDoor
/- coterieref09.Check, New and Next. -/
namespace Go.Proofs.YtdbhlajajdlmfaaDoor
open Go Go.RowKit
set_option linter.unusedSimpArgs false
section
variable {P : Program} {ops : Array Oper} {C : World → Prop} {E : Nat → Bool} {Q : Exit → Act → World → Prop} {n k : Nat} {o : Oper} {l : List Oper} {a : Act} {w : World}
/-- A value that hangs on what the class C keeps. -/
theorem lx_val (hE : E k = false) (hw : Region.wanted o (yielded ops a.tmps) = true) (v : Value) (hv : ∀ w', C w' → (execOp a.eval o).run P w' = .ok (.value v) w') (h : wpLx P ops C E Q n (k + 1) l (a.put o.dst v) w) : wpLx P ops C E Q (n + 1) k (o :: l) a w := by
  simp only [wpLx, stepL, hw, if_true, hE]
  exact ⟨v, fun w' hw' => .inl (hv w' hw'), h⟩
end
theorem lx_key {ops : Array Oper} {C : World → Prop} {E : Nat → Bool} {Q : Exit → Act → World → Prop} {n k : Nat} {o : Oper} {l : List Oper} {a : Act} {w : World} (hE : E k = false) (hw : Region.wanted o (yielded ops a.tmps) = true) (x : Operand) (ho : o.op = .load 30 x)
    (g q : Nat) (hx : a.eval x = .pointer (some ⟨g, q, none⟩)) (X : List (BitVec 8)) (hX : X.length = 32) (hr : ∀ w', C w' → Rd w' (.slice (some ⟨g, q, none⟩) 32 32) (bv X)) (h : wpLx Tryd.prog ops C E Q n (k + 1) l (a.put o.dst (.agg (bv X).toArray)) w) : wpLx Tryd.prog ops C E Q (n + 1) k (o :: l) a w := by
  refine lx_val hE hw _ (fun w' hw' => ?_) h
  unfold execOp
  simp only [ho, hx, Instr.loadAt, Instr.sureAddr, Sem.run_bind, Sem.run_pure, Result.andThen_ok, run_loadVar_key w' g q 32 32 X (hr w' hw') hX]
theorem run_loadVar_u64 (w : World) (g q : Nat) (v : Value) (h : w.cell? ⟨g, q, none⟩ = some v) : (loadVar 58 ⟨g, q, none⟩).run Tryd.prog w = .ok v w := by
  have hagg : (isAgg 58).run Tryd.prog w = .ok false w := by
    unfold isAgg
    rw [Sem.run_bind, run_underlying Tryd.underlying58 w]
    rfl
  unfold loadVar
  rw [Sem.run_bind, hagg]
  simp only [Bool.false_eq_true, if_false, Result.andThen_ok]
  first | (unfold load Sem.run; simp [h]) | (simp [load, Sem.run, h])
theorem lx_u64 {ops : Array Oper} {C : World → Prop} {E : Nat → Bool} {Q : Exit → Act → World → Prop} {n k : Nat} {o : Oper} {l : List Oper} {a : Act} {w : World} (hE : E k = false) (hw : Region.wanted o (yielded ops a.tmps) = true) (x : Operand) (ho : o.op = .load 58 x)
    (g q : Nat) (hx : a.eval x = .pointer (some ⟨g, q, none⟩)) (v : Value) (hr : ∀ w', C w' → w'.cell? ⟨g, q, none⟩ = some v) (h : wpLx Tryd.prog ops C E Q n (k + 1) l (a.put o.dst v) w) : wpLx Tryd.prog ops C E Q (n + 1) k (o :: l) a w := by
  refine lx_val hE hw _ (fun w' hw' => ?_) h
  unfold execOp
  simp only [ho, hx, Instr.loadAt, Instr.sureAddr, Sem.run_bind, Sem.run_pure, Result.andThen_ok, run_loadVar_u64 w' g q v (hr w' hw')]
end Go.Proofs.YtdbhlajajdlmfaaDoor
