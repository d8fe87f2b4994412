import Derived.Test.YtanodhagpegbfaaDoorA5
import Derived.Test.YtanodhagpegbfaaDoorRefBlock
import Derived.Test.YtanodhagpegbfaaDoorA4
/- coterieref01.Bytes: a number's bytes. -/
namespace Go.Proofs.YtanodhagpegbfaaDoor
open Go Go.RowKit
/-- The bytes of a number, of a width, the highest first. -/
def beL : Nat → Nat → List (BitVec 8)
  | 0, _ => []
  | i + 1, n => BitVec.ofNat 8 (n / 256 ^ i) :: beL i n
theorem beL_length : ∀ i n, (beL i n).length = i
  | 0, _ => rfl
  | i + 1, n => by rw [beL, List.length_cons, beL_length i n]
theorem bn_mod (x : Nat) : ((x : Nat) : Int) % 256 = bn (BitVec.ofNat 8 x) := by
  unfold bn
  rw [BitVec.toNat_ofNat]
  omega
set_option maxRecDepth 100000 in
set_option maxHeartbeats 1000000 in
theorem refBytes_any0 (width n : Nat) (w : World) (hw : width ≤ 1000) (hn : n < 18446744073709551616) :
    Calls Tryd.prog 68 #[.int .i64 (width : Int), .int .u64 (n : Int)] w (Returns fun v' w' => w'.ownsRow w.heap.size 5 1 v' (bv (beL width n)).length (bv (beL width n)) ∧ Below w.heap.size w w') := by
  go_enter Tryd.func68, Tryd.ntmps68
  go_wp2_with fail
  go_loopw [1, 5, 7] (fun v1 v5 v7 wr => ∃ i : Nat, i ≤ width ∧ v7 = .int .i64 i ∧ v1 = .int .u64 ((n / 256 ^ i : Nat) : Int) ∧ wr.ownsRow w.heap.size 5 1 v5 (bv (beL i n)).length (bv (beL i n)) ∧ Aft w wr) (fun _ _ v _ => width - (intOf v).toNat)
  case atStart => exact ⟨0, by omega, rfl, by simp, World.ownsRow_nil _ _ _ _, Aft.refl _⟩
  case round =>
    obtain ⟨i, hi, rfl, rfl, hown, haft⟩ := hrel
    have HO := Lib.hid hown
    have HF := Lib.hid haft
    have hL := beL_length i n
    have HS : Hid (beL (i + 1) n = BitVec.ofNat 8 (n / 256 ^ i) :: beL i n) := rfl
    have hd : n / 256 ^ (i + 1) = n / 256 ^ i / 256 := by rw [Nat.pow_succ, Nat.div_div_eq_div_mul]
    have HD := Lib.hid hd
    have hx : n / 256 ^ i < 18446744073709551616 := Nat.lt_of_le_of_lt (Nat.div_le_self _ _) hn
    clear hown haft hd
    generalize n / 256 ^ i = x at *
    generalize hl : beL i n = l at *
    have HLq := Lib.hid hl
    clear hl
    have HL := Lib.hid hL
    clear hL
    by_cases hlt : i < width
    · have hlt' : (i : Int) < (width : Int) := by omega
      have hbm := bn_mod x
      obtain ⟨al, nl, cl, rfl⟩ : ∃ a n c, u5 = .slice a n c := by obtain ⟨a, c, h⟩ := own_shape HO.out; exact ⟨a, _, c, h⟩
      have HR := Lib.hid (Rd.of_own HO.out)
      have HOw := Lib.hid (World.ownsRow_lit (base := w.heap.size) (e := 5) (size := 1) wr #[.int .u8 (bn (BitVec.ofNat 8 x))] 1 (Below.size HF.out) (by decide) rfl)
      have HRa := Lib.hid (HR.out.grow (Aft.alloc wr (.cells #[.int .u8 (bn (BitVec.ofNat 8 x))] 5)))
      go_wp2_with ((at_builtin; refine wpList_append_rd rfl _ _ 24 rfl w.heap.size 5 (.int .u8 0) 1 Tryd.underlying24 info_byte rfl (.slice (some ⟨wr.heap.size, 0, none⟩) 1 1) (.slice al nl cl) [.int .u8 (bn (BitVec.ofNat 8 x))] (bv l) rfl rfl HOw.out HRa.out (bv_one _) (by have := HL.out; simp [bv_length]; omega) (by have := HL.out; simp [bv_length]; omega) (by have := Below.size HF.out; rw [World.size_alloc]; omega) ?_; intro v3 w3 k1 k2 k3; have HO3 := Lib.hid (show w3.ownsRow w.heap.size 5 1 v3 (bv (beL (i + 1) n)).length (bv (beL (i + 1) n)) by rw [HS.out]; exact k1); have HF3 := Lib.hid (show Aft w w3 from (show Below w.heap.size w (wr.alloc (.cells #[.int .u8 (bn (BitVec.ofNat 8 x))] 5)) from Aft.trans HF.out (Aft.alloc _ _)).grown k2 (by rw [World.size_alloc]; have := Below.size HF.out; omega) (fun g hg => by simp [Value.ownBlock] at hg; have := Below.size HF.out; omega)); clear k1 k2 k3))
      go_roundw
      case rel => exact ⟨i + 1, by omega, by go_num, by rw [HD.out]; rfl, HO3.out, HF3.out⟩
      case measure => simp [intOf]; omega
    · obtain rfl : i = width := by omega
      have hlt' : ¬ ((i : Nat) : Int) < (i : Nat) := by omega
      go_wp2_with fail
      go_ret
      exact Returns.mk ⟨by rw [HLq.out]; exact HO.out, HF.out⟩
theorem refBytes_any (width n : Nat) (w : World) (hw : width ≤ 1000) (hn : n < 18446744073709551616) :
    Calls Tryd.prog 68 #[.int .i64 (width : Int), .int .u64 (n : Int)] w (RetSl (bv (beL width n)).length fun v' w' => w'.ownsRow w.heap.size 5 1 v' (bv (beL width n)).length (bv (beL width n)) ∧ Below w.heap.size w w') :=
  (refBytes_any0 width n w hw hn).mono fun _ _ h => RetSl.of_own h fun _ _ q => q.1
end Go.Proofs.YtanodhagpegbfaaDoor
/- coterieref02.Padded: bytes, padded. -/
namespace Go.Proofs.YtanodhagpegbfaaDoor
open Go Go.RowKit
/-- How many bytes 0 stand behind the bit. -/
def zc (L : Nat) : Nat := (119 - L % 64) % 64
def padB (b : List (BitVec 8)) (j : Nat) : List (BitVec 8) := b ++ 128 :: List.replicate j 0
theorem padB_length (b : List (BitVec 8)) (j : Nat) : (padB b j).length = b.length + 1 + j := by simp [padB]; omega
theorem padB_succ (b : List (BitVec 8)) (j : Nat) : padB b (j + 1) = padB b j ++ [0] := by
  unfold padB
  rw [List.replicate_succ', List.append_assoc, List.cons_append]
theorem bv_one8 (x : BitVec 8) : ∀ u ∈ [Value.int .u8 (bn x)], u.oneCell' = true := by intro u hu; simp at hu; subst hu; rfl
set_option maxRecDepth 100000 in
set_option maxHeartbeats 1000000 in
theorem padded_any0 (v : Value) (b : List (BitVec 8)) (w : World) (hb : Rd w v (bv b)) (hlen : b.length ≤ 1099511627776) :
    Calls Tryd.prog 92 #[v] w (Returns fun v' w' => w'.ownsRow w.heap.size 5 1 v' (bv (padB b (zc b.length) ++ beL 8 (8 * b.length))).length (bv (padB b (zc b.length) ++ beL 8 (8 * b.length))) ∧ Below w.heap.size w w') := by
  have HB := Lib.hid hb
  have HL := Lib.hid hlen
  obtain ⟨ao, co, rfl, -, -, -, -⟩ := hb
  clear hlen
  go_enter Tryd.func92, Tryd.ntmps92
  go_wp2_with fail
  refine (copy_any _ b w HB.out (by have := HL.out; omega)).mono ?_
  rintro e w1 ⟨a1, c1, rfl, ho1, hb1⟩
  have HO1 := Lib.hid (ho1.alloc (.cells #[.int .u8 (bn 128)] 5))
  have HR1 := Lib.hid (Rd.of_own (World.ownsRow_lit (base := w1.heap.size) (e := 5) (size := 1) w1 #[.int .u8 (bn 128)] 1 (Nat.le_refl _) (by decide) rfl))
  have HA1 := Lib.hid (show Aft w w1 from hb1)
  have h128 : (128 : Int) = bn 128 := by decide
  have h0b : (0 : Int) = bn 0 := by decide
  have H0 := Lib.hid h0b
  clear ho1 hb1 h0b h128
  go_wp2_with ((at_builtin; refine wpList_append_rd rfl _ _ 24 rfl w.heap.size 5 (.int .u8 0) 1 Tryd.underlying24 info_byte rfl (.slice a1 (bv b).length c1) (.slice (some ⟨w1.heap.size, 0, none⟩) 1 1) (bv b) [.int .u8 (bn 128)] rfl rfl HO1.out HR1.out (bv_one8 128) (by have := HL.out; simp [bv_length]; omega) (by have := HL.out; simp [bv_length]; omega) (by have := Below.size HA1.out; rw [World.size_alloc]; omega) ?_; intro v3 w3 k1 k2 k3; have HO3 := Lib.hid (show w3.ownsRow w.heap.size 5 1 v3 (bv (padB b 0)).length (bv (padB b 0)) by rw [padB, bv_append]; exact k1); have HA3 := Lib.hid (show Aft w w3 from (show Below w.heap.size w (w1.alloc (.cells #[.int .u8 (bn 128)] 5)) from Aft.trans HA1.out (Aft.alloc _ _)).grown k2 (by rw [World.size_alloc]; have := Below.size HA1.out; omega) (fun g hg => (own_lt HO1.out hg).1)); clear k1 k2 k3))
  go_loopw [3] (fun v3 wr => ∃ j : Nat, j ≤ zc b.length ∧ wr.ownsRow w.heap.size 5 1 v3 (bv (padB b j)).length (bv (padB b j)) ∧ Aft w wr) (fun v _ => b.length + 1 + zc b.length - lenV v)
  case atStart => exact ⟨0, by omega, HO3.out, HA3.out⟩
  case round =>
    obtain ⟨j, hj, hown, haft⟩ := hrel
    have HO := Lib.hid hown
    have HF := Lib.hid haft
    have HPl := Lib.hid (show (bv (padB b j)).length = b.length + 1 + j by rw [bv_length, padB_length])
    have HS := Lib.hid (padB_succ b j)
    obtain ⟨al, cl, rfl⟩ := own_shape hown
    clear hown haft
    by_cases hlt : j < zc b.length
    · have hne : ¬ (((bv (padB b j)).length : Nat) : Int) % 64 = 56 := by rw [HPl.out]; unfold zc at hlt; omega
      have HOw := Lib.hid (HO.out.alloc (.cells #[.int .u8 0] 5))
      have HRw := Lib.hid (Rd.of_own (World.ownsRow_lit (base := wr.heap.size) (e := 5) (size := 1) wr #[.int .u8 0] 1 (Nat.le_refl _) (by decide) rfl))
      have HZc := Lib.hid (show zc b.length < 64 by unfold zc; omega)
      go_wp2_with ((at_builtin; refine wpList_append_rd rfl _ _ 24 rfl w.heap.size 5 (.int .u8 0) 1 Tryd.underlying24 info_byte rfl (.slice al (bv (padB b j)).length cl) (.slice (some ⟨wr.heap.size, 0, none⟩) 1 1) (bv (padB b j)) [.int .u8 0] rfl rfl HOw.out HRw.out (bv_one8 0) (by have := HL.out; have := HPl.out; have := HZc.out; simp only [List.length_cons, List.length_nil]; omega) (by have := HL.out; have := HPl.out; have := HZc.out; simp only [List.length_cons, List.length_nil]; omega) (by have := Below.size HF.out; rw [World.size_alloc]; omega) ?_; intro v4 w4 k1 k2 k3; have HO4 := Lib.hid (show w4.ownsRow w.heap.size 5 1 v4 (bv (padB b (j + 1))).length (bv (padB b (j + 1))) by rw [HS.out, bv_append]; exact k1); have HA4 := Lib.hid (show Aft w w4 from (show Below w.heap.size w (wr.alloc (.cells #[.int .u8 0] 5)) from Aft.trans HF.out (Aft.alloc _ _)).grown k2 (by rw [World.size_alloc]; have := Below.size HF.out; omega) (fun g hg => (own_lt HOw.out hg).1)); clear k1 k2 k3))
      go_roundw
      case rel => exact ⟨j + 1, by omega, HO4.out, HA4.out⟩
      case measure =>
        have h4 := HO4.out
        obtain ⟨a4, c4, rfl⟩ := own_shape h4
        have := padB_length b (j + 1)
        have := HPl.out
        simp only [lenV, bv_length] at *
        omega
    · obtain rfl : j = zc b.length := by omega
      have heq : (((bv (padB b (zc b.length))).length : Nat) : Int) % 64 = 56 := by rw [HPl.out]; unfold zc; omega
      have HZc := Lib.hid (show zc b.length < 64 by unfold zc; omega)
      have hby := refBytes_any 8 (8 * b.length) wr (by omega) (by have := HL.out; omega)
      rw [show ((8 * b.length : Nat) : Int) = 8 * (b.length : Int) by omega] at hby
      have HBy := Lib.hid hby
      have hmul : (8 : Int) * (((bv b).length : Nat) : Int) = ((8 * b.length : Nat) : Int) := by rw [bv_length]; omega
      have hbl : (bv b).length ≤ 1099511627776 := by rw [bv_length]; exact HL.out
      clear hby
      go_wp2_with fail
      refine HBy.out.mono ?_
      rintro e w2 ⟨a2, c2, rfl, ho2, hb2⟩
      have HO2 := Lib.hid (ownsRow_below HO.out (w' := w2) fun g hg => Below.block hb2 g (own_lt HO.out hg).2)
      have HR2 := Lib.hid (Rd.of_own ho2)
      have HA2 := Lib.hid (show Aft w w2 from Aft.trans HF.out hb2)
      have HB8 := Lib.hid (show (bv (beL 8 (8 * b.length))).length = 8 by rw [bv_length, beL_length])
      clear ho2 hb2
      go_wp2_with ((at_builtin; refine wpList_append_rd rfl _ _ 24 rfl w.heap.size 5 (.int .u8 0) 1 Tryd.underlying24 info_byte rfl (.slice al (bv (padB b (zc b.length))).length cl) (.slice a2 (bv (beL 8 (8 * b.length))).length c2) (bv (padB b (zc b.length))) (bv (beL 8 (8 * b.length))) rfl rfl HO2.out HR2.out (bv_one _) (by have := HL.out; have := HPl.out; have := HZc.out; have := HB8.out; omega) (by have := HL.out; have := HPl.out; have := HZc.out; have := HB8.out; omega) (Below.size HA2.out) ?_; intro v4 w4 k1 k2 k3; have HO4 := Lib.hid (show w4.ownsRow w.heap.size 5 1 v4 (bv (padB b (zc b.length) ++ beL 8 (8 * b.length))).length (bv (padB b (zc b.length) ++ beL 8 (8 * b.length))) by rw [bv_append]; exact k1); have HA4 := Lib.hid (show Aft w w4 from (show Below w.heap.size w w2 from HA2.out).grown k2 (Below.size HA2.out) (fun g hg => (own_lt HO2.out hg).1)); clear k1 k2 k3))
      go_ret
      exact Returns.mk ⟨HO4.out, HA4.out⟩
theorem padded_any (v : Value) (b : List (BitVec 8)) (w : World) (hb : Rd w v (bv b)) (hlen : b.length ≤ 1099511627776) :
    Calls Tryd.prog 92 #[v] w (RetSl (bv (padB b (zc b.length) ++ beL 8 (8 * b.length))).length fun v' w' => w'.ownsRow w.heap.size 5 1 v' (bv (padB b (zc b.length) ++ beL 8 (8 * b.length))).length (bv (padB b (zc b.length) ++ beL 8 (8 * b.length))) ∧ Below w.heap.size w w') :=
  (padded_any0 v b w hb hlen).mono fun _ _ h => RetSl.of_own h fun _ _ q => q.1
end Go.Proofs.YtanodhagpegbfaaDoor
/- coterieref02.Bytes: words' bytes; and First. -/
namespace Go.Proofs.YtanodhagpegbfaaDoor
open Go Go.RowKit
def kRow (s : St) (m j : Nat) : Value := .int .u8 (bn (if j < m then (keyBytes s).getD j 0 else 0))
theorem wbytes_be (x : BitVec 32) : beL 4 x.toNat = wbytes x := by
  have := x.isLt
  simp only [beL, wbytes, Nat.pow_zero, Nat.div_one, Nat.pow_succ, Nat.one_mul]
  simp only [List.cons.injEq, and_true]
  refine ⟨?_, ?_, ?_, ?_⟩ <;> (apply BitVec.eq_of_toNat_eq; simp [Nat.shiftRight_eq_div_pow])
theorem keyBytes_at (s : St) : ∀ i n, i < 8 → n < 4 → (keyBytes s).getD (4 * i + n) 0 = (wbytes (s.at i)).getD n 0 := by
  intro i n hi hn
  match i, hi with
  | 0, _ | 1, _ | 2, _ | 3, _ | 4, _ | 5, _ | 6, _ | 7, _ => match n, hn with | 0, _ | 1, _ | 2, _ | 3, _ => rfl
theorem kRow_step (s : St) (i n : Nat) (hi : i < 8) (hn : n < 4) : ∀ j, j < 32 → (if j = 4 * i + n then Value.int .u8 (bn ((wbytes (s.at i)).getD n 0)) else kRow s (4 * i + n) j) = kRow s (4 * i + (n + 1)) j := by
  intro j _
  unfold kRow
  by_cases h : j = 4 * i + n
  · subst h; rw [if_pos rfl, if_pos (by omega), keyBytes_at s i n hi hn]
  · rw [if_neg h]
    by_cases h2 : j < 4 * i + n
    · rw [if_pos h2, if_pos (by omega)]
    · rw [if_neg h2, if_neg (by omega)]
theorem kRow_end {w : World} {g t : Nat} {s : St} (h : w.rowIs g t 32 (kRow s 32)) : w.heap[g]? = some (.cells (bv (keyBytes s)).toArray t (0, 0)) := by
  obtain ⟨cs, h1, h2, h3⟩ := h
  have hl : (keyBytes s).length = 32 := rfl
  rw [h1]
  congr 2
  apply Array.ext_getElem?
  intro i
  by_cases hi : i < 32
  · rw [h3 i hi]
    unfold kRow
    rw [if_pos hi]
    simp [bv, List.getD, List.getElem?_eq_getElem (show i < (keyBytes s).length by omega)]
  · rw [Array.getElem?_eq_none (by omega), Array.getElem?_eq_none (by rw [List.size_toArray, bv_length]; omega)]
theorem key0_at (i : Nat) (h : i < 32) : key0[i]? = some (.int .u8 0) := by
  have e : key0.toList = List.replicate 32 (.int .u8 0) := rfl
  rw [← Array.getElem?_toList, e, List.getElem?_replicate, if_pos h]
theorem kRow_start {w : World} {g t : Nat} (s : St) (h : w.heap[g]? = some (.cells key0 t (0, 0))) : w.rowIs g t 32 (kRow s 0) :=
  ⟨_, h, rfl, fun i hi => by
    unfold kRow
    rw [if_neg (by omega)]
    show key0[i]? = some (.int .u8 0)
    exact key0_at i hi⟩
set_option maxRecDepth 100000 in
set_option maxHeartbeats 2000000 in
theorem refKey_any (s : St) (w : World) :
    Calls Tryd.prog 96 #[.agg (stArr s)] w fun e w' => e = .returned (.agg (bv (keyBytes s)).toArray) ∧ Below w.heap.size w w' := by
  have H0 := Lib.hid (heap_alloc_new w (.cells (stArr s) 116))
  have HX := Lib.hid (fun (w1 : World) (o1 o2 : Obj) => Aft.get (Aft.trans (Aft.alloc w1 o1) (Aft.alloc _ o2)) (w := w1) (g := w.heap.size) (o := .cells (stArr s) 116 (0, 0)))
  go_enter Tryd.func96, Tryd.ntmps96
  go_wp2_with ((refine wpList_load_row rfl 116 (.tmp 1) rfl w.heap.size rfl 116 (stArr s) (0, 0) _ (HX.out _ _ _ H0.out) Tryd.underlying116 rfl (st_info s) ?_))
  obtain ⟨w4, hw4⟩ : ∃ w4 : World, w4 = ((w.alloc (.cells (stArr s) 116)).alloc (.cells key0 23)).alloc (.cells key0 23) := ⟨_, rfl⟩
  rw [show ((w.alloc (.cells (stArr s) 116)).alloc (.cells #[.int .u8 0, .int .u8 0, .int .u8 0, .int .u8 0, .int .u8 0, .int .u8 0, .int .u8 0, .int .u8 0, .int .u8 0, .int .u8 0, .int .u8 0, .int .u8 0, .int .u8 0, .int .u8 0, .int .u8 0, .int .u8 0, .int .u8 0, .int .u8 0, .int .u8 0, .int .u8 0, .int .u8 0, .int .u8 0, .int .u8 0, .int .u8 0, .int .u8 0, .int .u8 0, .int .u8 0, .int .u8 0, .int .u8 0, .int .u8 0, .int .u8 0, .int .u8 0] 23)).alloc (.cells #[.int .u8 0, .int .u8 0, .int .u8 0, .int .u8 0, .int .u8 0, .int .u8 0, .int .u8 0, .int .u8 0, .int .u8 0, .int .u8 0, .int .u8 0, .int .u8 0, .int .u8 0, .int .u8 0, .int .u8 0, .int .u8 0, .int .u8 0, .int .u8 0, .int .u8 0, .int .u8 0, .int .u8 0, .int .u8 0, .int .u8 0, .int .u8 0, .int .u8 0, .int .u8 0, .int .u8 0, .int .u8 0, .int .u8 0, .int .u8 0, .int .u8 0, .int .u8 0] 23) = w4 from hw4.symm]
  have HR4 := Lib.hid (kRow_start s (show w4.heap[w.heap.size + 1 + 1]? = some (.cells key0 23 (0, 0)) by rw [hw4]; have := heap_alloc_new ((w.alloc (.cells (stArr s) 116)).alloc (.cells key0 23)) (.cells key0 23); rwa [World.size_alloc, World.size_alloc] at this))
  have HO4 := Lib.hid (show w4.heap[w.heap.size + 1]? = some (.cells key0 23 (0, 0)) by rw [hw4]; refine Aft.get (Aft.alloc _ _) ?_; have := heap_alloc_new (w.alloc (.cells (stArr s) 116)) (.cells key0 23); rwa [World.size_alloc] at this)
  have HB4 := Lib.hid (show Aft w w4 by rw [hw4]; exact Aft.trans (Aft.alloc _ _) (Aft.trans (Aft.alloc _ _) (Aft.alloc _ _)))
  clear hw4
  go_loopw [9] (fun v9 wr => ∃ i : Nat, i ≤ 8 ∧ v9 = .int .i64 i ∧ wr.rowIs (w.heap.size + 1 + 1) 23 32 (kRow s (4 * i)) ∧ wr.heap[w.heap.size + 1]? = some (.cells key0 23 (0, 0)) ∧ Aft w wr) (fun v _ => 8 - (intOf v).toNat)
  case atStart => exact ⟨0, by omega, rfl, HR4.out, HO4.out, HB4.out⟩
  case round =>
    obtain ⟨i, hi, rfl, hrow, ho, hb⟩ := hrel
    have HRow := Lib.hid hrow
    have HO := Lib.hid ho
    have HB := Lib.hid hb
    clear hrow ho hb
    by_cases hlt : i < 8
    · have hlt' : (i : Int) < 8 := by omega
      have i0 := run_index_cells (P := Tryd.prog) (len := 8) (t := 116) (e := 115) (k := .u32) Tryd.underlying116 Tryd.underlying115 (by kernel_rfl) (i := i) hlt (stArr_at s i hlt)
      have HS := Lib.hid (kRow_step s i)
      have HWb := Lib.hid (wbytes_be (s.at i))
      have hwx : wn (s.at i) = (((s.at i).toNat : Nat) : Int) := rfl
      have hby := refBytes_any 4 (s.at i).toNat wr (by omega) (by have := (s.at i).isLt; omega)
      rw [HWb.out] at hby
      have HBy := Lib.hid hby
      clear hby
      go_wp2_with fail
      refine HBy.out.mono ?_
      rintro e w2 ⟨a2, c2, rfl, ho2, hb2⟩
      have HO2 := Lib.hid (Rd.of_own ho2)
      have HA2 := Lib.hid (show Aft wr w2 from hb2)
      have hOwn := Lib.hid fun g hg => (own_lt ho2 (g := g) hg).1
      clear ho2 hb2
      have hl4 : (bv (wbytes (s.at i))).length = 4 := rfl
      rw [hl4] at HO2 ⊢
      obtain ⟨g2, o2, rfl, -, -⟩ := Rd.some_of HO2.out (by rw [hl4]; decide)
      have HRow2 := Lib.hid (HRow.out.of_block (Below.block HA2.out _ HRow.out.lt))
      have HO22 := Lib.hid (Aft.get HA2.out HO.out)
      have HB2 := Lib.hid (Aft.trans HB.out HA2.out)
      have HRd2 := Lib.hid (show ∀ n, n < 4 → w2.cell? ⟨g2, o2 + n, none⟩ = some (.int .u8 (bn ((wbytes (s.at i)).getD n 0))) from fun n hn => HO2.out.cell_at (show n < (wbytes (s.at i)).length from hn))
      have HG2 := Lib.hid (show Rd w2 (.slice (some ⟨g2, o2, none⟩) 4 c2) (bv (wbytes (s.at i))) from HO2.out)
      have hkey : wr.heap.size ≤ g2 := hOwn.out g2 rfl
      have hkey2 : w.heap.size + 1 + 1 < g2 := by have := HRow.out.lt; omega
      have HKey := Lib.hid hkey2
      clear hkey hkey2 hOwn
      clear HRow HO HB HBy HA2 HO2
      go_wp2_with fail
      go_loopw [17] (fun v17 wx => ∃ n : Nat, n ≤ 4 ∧ v17 = .int .i64 n ∧ wx.rowIs (w.heap.size + 1 + 1) 23 32 (kRow s (4 * i + n)) ∧ wx.heap[w.heap.size + 1]? = some (.cells key0 23 (0, 0)) ∧ Aft w wx ∧ Rd wx (.slice (some ⟨g2, o2, none⟩) 4 c2) (bv (wbytes (s.at i)))) (fun v _ => 4 - (intOf v).toNat)
      case atStart => exact ⟨0, by omega, rfl, HRow2.out, HO22.out, HB2.out, HG2.out⟩
      case round =>
        clear HRow2 HO22 HB2 HG2
        obtain ⟨n, hn, rfl, hrow, ho, hb, hrd⟩ := hrel
        by_cases hlt2 : n < 4
        · have hlt2' : (n : Int) < 4 := by omega
          have hc := hrd.cell_at (show n < (wbytes (s.at i)).length from hlt2)
          have HRow := Lib.hid hrow
          have HO := Lib.hid ho
          have HB := Lib.hid hb
          have HRd := Lib.hid hrd
          have ix : (4 * (i : Int) + (n : Int)).toNat = 4 * i + n := by omega
          have ix1 : 4 * (i : Int) + (n : Int) < 32 := by omega
          have hcj := hrow.cell (i := 4 * i + n) (by omega)
          have hfj := hrow.frozen (4 * i + n)
          clear hrow ho hb hrd
          go_wp2_with fail
          go_roundw
          case rel =>
            exact ⟨n + 1, by omega, by go_num, (World.rowIs.set HRow.out _ _).congr (HS.out n hlt hlt2), (Below.heap_setCell _ _ _ _ (show w.heap.size + 1 ≠ w.heap.size + 1 + 1 by omega)).trans HO.out, aft_set HB.out (show w.heap.size ≤ w.heap.size + 1 + 1 by omega) _, HRd.out.setCell (fun g hg _ => by cases hg; have := HKey.out; simp only; omega) _⟩
          case measure => simp [intOf]; omega
        · obtain rfl : n = 4 := by omega
          have hlt2' : ¬ ((4 : Nat) : Int) < 4 := by omega
          have HRow := Lib.hid hrow
          have HO := Lib.hid ho
          have HB := Lib.hid hb
          clear hrow ho hb hrd
          go_wp2_with fail
          go_roundw
          case rel => exact ⟨i + 1, by omega, by go_num, by rw [show 4 * (i + 1) = 4 * i + 4 by omega]; exact HRow.out, HO.out, HB.out⟩
          case measure => simp [intOf]; omega
    · obtain rfl : i = 8 := by omega
      have hlt' : ¬ ((8 : Nat) : Int) < 8 := by omega
      have HE := Lib.hid (kRow_end HRow.out)
      have hs32 : (Tryd.prog.info? 23).map (·.size) = some (bv (keyBytes s)).toArray.size := by kernel_rfl
      have H32 := Lib.hid hs32
      have H1 := Lib.hid (show (bv (keyBytes s)).toArray.all (·.oneCell') = true by kernel_rfl)
      clear hs32
      go_wp2_with (first
        | (refine wpList_load_row rfl 23 (.tmp 3) rfl (w.heap.size + 1 + 1) rfl 23 (bv (keyBytes s)).toArray (0, 0) _ HE.out Tryd.underlying23 rfl H32.out ?_)
        | (refine wpList_store_rowX rfl 23 (.tmp 2) (.tmp 30) rfl (w.heap.size + 1) (bv (keyBytes s)).toArray rfl rfl 23 key0 HO.out H32.out (by kernel_rfl) H1.out ?_; intro wk q2 q3; have HKk := Lib.hid q2.out; have HBk := Lib.hid (q3 w.heap.size w (by omega) HB.out); clear q2 q3))
      refine bodyPost_ret (results_cell_row rfl _ _ (w.heap.size + 1) 23 (bv (keyBytes s)).toArray (0, 0) _ rfl HKk.out Tryd.underlying23 rfl H32.out) rfl ?_
      exact ⟨rfl, HBk.out⟩
end Go.Proofs.YtanodhagpegbfaaDoor
/- coterieref02.First, and coterieref02.Sum: the document's sum of any parts is the digest. -/
namespace Go.Proofs.YtanodhagpegbfaaDoor
open Go Go.RowKit
theorem beL_map : ∀ (i n : Nat), i ≤ 8 → beL i n = ((List.range 8).drop (8 - i)).map (beByte n)
  | 0, n, _ => rfl
  | i + 1, n, h => by
    rw [beL, beL_map i n (by omega), List.drop_eq_getElem_cons (i := 8 - (i + 1)) (by rw [List.length_range]; omega), List.map_cons, show 8 - (i + 1) + 1 = 8 - i by omega, List.getElem_range]
    unfold beByte
    rw [show 7 - (8 - (i + 1)) = i by omega, Nat.shiftRight_eq_div_pow, Nat.pow_mul]
theorem pad_tail (r : List (BitVec 8)) (N : Nat) (h : r.length % 64 = N % 64) : padB r (zc r.length) ++ beL 8 (8 * N) = r ++ tailB N 8 := by
  unfold padB tailB zc
  rw [show 63 - (N + 8) % 64 = (119 - r.length % 64) % 64 by omega, beL_map 8 (8 * N) (Nat.le_refl _), Nat.mul_comm 8 N]
  simp [List.append_assoc]
theorem digest_pad (K : Nat → BitVec 32) (d : List (BitVec 8)) : keyBytes (absorb K ((d ++ tailB d.length 8).length / 64) iv (d ++ tailB d.length 8)) = digest K d := by
  unfold digest finKey
  rw [(sha_step K iv d (tailB d.length 8)).1]
  rfl
theorem pad_whole (d : List (BitVec 8)) (N : Nat) (h : d.length % 64 = N % 64) : (d ++ tailB N 8).length % 64 = 0 := by
  rw [List.length_append, tailB_length]; omega
/-- A block of a list of bytes. -/
def blk (b : List (BitVec 8)) (j : Nat) : List (BitVec 8) := (b.drop (64 * j)).take 64
theorem absorb_blk (K : Nat → BitVec 32) (s : St) (b : List (BitVec 8)) (j : Nat) : mixed K (absorb K j s b) (byteAt (blk b j)) = absorb K (j + 1) s b := by
  rw [absorb_succ]
  apply mixed_congr
  intro i hi
  unfold byteAt blk
  simp only [List.getD_eq_getElem?_getD]
  rw [List.getElem?_take_of_lt hi]
theorem blk_length {b : List (BitVec 8)} {j : Nat} (h : 64 * j + 64 ≤ b.length) : (blk b j).length = 64 := by
  unfold blk
  rw [List.length_take, List.length_drop]
  omega
set_option maxRecDepth 100000 in
theorem cut_blk {w : World} {ao : Option Addr} {len cap j : Nat} {b : List (BitVec 8)} (h : Rd w (.slice ao len cap) (bv b)) (hj : 64 * j + 64 ≤ b.length) (l r : Int) (hl : l = ((64 * j : Nat) : Int)) (hr : r = ((64 * j + 64 : Nat) : Int)) :
    ∃ g o, (∀ wx, (Instr.slice 24 (.slice ao len cap) (some (.int .i64 l)) (some (.int .i64 r)) none).run Tryd.prog wx = .ok (.slice (some ⟨g, o, none⟩) 64 (cap - 64 * j)) wx) ∧ Rd w (.slice (some ⟨g, o, none⟩) 64 (cap - 64 * j)) (bv (blk b j)) := by
  subst hl hr
  have hs := h.sl
  rw [bv_length] at hs
  have h1 := (h.from (n := 64 * j) (by rw [bv_length]; omega)).to (n := 64) (by rw [List.length_drop, bv_length]; omega)
  have e : bv (blk b j) = ((bv b).drop (64 * j)).take 64 := by unfold blk; rw [bv_take, bv_drop]
  rw [← e] at h1
  obtain ⟨g, o, hgo, -, -⟩ := Rd.some_of h1 (by rw [bv_length, blk_length hj]; omega)
  rw [hgo] at h1
  refine ⟨g, o, fun wx => ?_, h1⟩
  obtain ⟨i0, hi, hz1, hz2, hz3⟩ := info_parts info_byte
  have hc : Tryd.prog.cellsOf 5 = 1 := by simp [Program.cellsOf, hi, hz2]
  rw [run_slice_lh wx 24 ao len cap Tryd.underlying24 .i64 .i64 ((64 * j : Nat) : Int) ((64 * j + 64 : Nat) : Int) (by omega) (by omega) (by omega)]
  rw [show Tryd.prog.elem 24 = 5 from rfl, run_sizeOf wx hi]
  simp only [Result.andThen, sliced, Int.toNat_natCast]
  rw [hc, Nat.mul_one, hgo, show 64 * j + 64 - 64 * j = 64 by omega]
set_option maxRecDepth 100000 in
theorem first_any (w : World) : Calls Tryd.prog 94 #[] w fun e w' => e = .returned (.agg (stArr iv)) ∧ Below w.heap.size w w' := by
  go_enter Tryd.func94, Tryd.ntmps94
  go_wp2_with fail
  go_returns
  exact ⟨rfl, (Below.refl _ _).alloc (Nat.le_refl _) _⟩
set_option maxRecDepth 100000 in
set_option maxHeartbeats 2000000 in
theorem refSum_any (vp : Value) (ps : List (List (BitVec 8))) (w : World) (hK : TabK K0 0 w) (hp : RdAll w vp ps) (hlen : ps.flatten.length ≤ 1099511627776) :
    Calls Tryd.prog 71 #[vp] w fun e w' => e = .returned (.agg (bv (digest K0 ps.flatten)).toArray) ∧ Below w.heap.size w w' := by
  have HK := Lib.hid hK
  have HP := Lib.hid hp
  have HL := Lib.hid hlen
  obtain ⟨ao, cap, rfl, hcap⟩ := hp.shape
  clear hK hp hcap
  have HZ := Lib.hid (heap_alloc_new w (.cells key0 23))
  go_enter Tryd.func71, Tryd.ntmps71
  go_wp2_with fail
  refine (all_any _ ps _ (HP.out.below (Aft.alloc w (.cells key0 23))) (by have := HL.out; omega)).mono ?_
  rintro e w1 ⟨a1, c1, rfl, ho1, hb1⟩
  have HR1 := Lib.hid (Rd.of_own ho1)
  have HA1 := Lib.hid (show Aft w w1 from Aft.trans (Aft.alloc w (.cells key0 23)) hb1)
  have HZ1 := Lib.hid (Aft.get (show Aft (w.alloc (.cells key0 23)) w1 from hb1) HZ.out)
  generalize hd : ps.flatten = d at *
  have HD := Lib.hid hd
  clear hd ho1 hb1 hlen
  go_wp2_with fail
  refine (padded_any _ d _ HR1.out HL.out).mono ?_
  rintro e w2 ⟨a2, c2, rfl, ho2, hb2⟩
  have hpt := pad_tail d d.length rfl
  rw [hpt] at ho2 ⊢
  have hwh := pad_whole d d.length rfl
  have hdp := digest_pad K0 d
  have hlB : (d ++ tailB d.length 8).length ≤ 1099511627776 + 1000 := by have := HL.out; rw [List.length_append, tailB_length]; omega
  generalize d ++ tailB d.length 8 = b at *
  have HR2 := Lib.hid (Rd.of_own ho2)
  have HA2 := Lib.hid (show Aft w w2 from Aft.trans HA1.out hb2)
  have HZ2 := Lib.hid (Aft.get (show Aft w1 w2 from hb2) HZ1.out)
  have HWh := Lib.hid hwh
  have HDp := Lib.hid hdp
  have HLB := Lib.hid hlB
  clear ho2 hb2 hpt hwh hdp hlB
  go_wp2_with fail
  refine (first_any _).mono ?_
  rintro e w3 ⟨rfl, hb3⟩
  have HR3 := Lib.hid (HR2.out.grow hb3)
  have HA3 := Lib.hid (show Aft w w3 from Aft.trans HA2.out hb3)
  have HZ3 := Lib.hid (Aft.get (show Aft w2 w3 from hb3) HZ2.out)
  have HS3 := Lib.hid (heap_alloc_new w3 (.cells zero8 116))
  clear hb3
  go_wp2_with ((refine wpList_store_rowX rfl 116 (.tmp 4) (.tmp 9) rfl w3.heap.size (stArr iv) rfl rfl 116 zero8 HS3.out (st_info _) (by rw [stArr_size]; rfl) (stArr_one iv) ?_; intro w5 q2 q3; have HV5 := Lib.hid q2.out; have h35 := (show Aft w3 w5 from q3 w3.heap.size w3 (Nat.le_refl _) (Below.alloc (Below.refl _ _) (Nat.le_refl _) _)); have HA5 := Lib.hid (Aft.trans HA3.out h35); have HR5 := Lib.hid (HR3.out.grow h35); have H35 := Lib.hid h35; clear q2 q3 h35))
  have hbl := bv_length b
  rw [hbl]
  go_loopw [5] (fun v5 wr => ∃ j : Nat, 64 * j ≤ b.length ∧ v5 = .int .i64 ((64 * j : Nat) : Int) ∧ wr.heap[w3.heap.size]? = some (.cells (stArr (absorb K0 j iv b)) 116 (0, 0)) ∧ Below w3.heap.size w3 wr) (fun v _ => b.length - (intOf v).toNat)
  case atStart => exact ⟨0, by omega, rfl, HV5.out, H35.out⟩
  case round =>
    obtain ⟨j, hj, rfl, hv, hb⟩ := hrel
    clear hbl
    have HV := Lib.hid hv
    have HB := Lib.hid hb
    have HW := Lib.hid (show Aft w wr from Below.trans HA3.out (Below.mono hb (Below.size HA3.out)))
    clear hv hb HV5 HR5 H35 HS3
    have hLb := HLB.out
    by_cases hlt : 64 * j < b.length
    · have hlt' : ((64 * j : Nat) : Int) < (b.length : Int) := by omega
      have h64 : 64 * j + 64 ≤ b.length := by have := HWh.out; omega
      have hrd := HR3.out.grow HB.out
      rw [bv_length] at hrd
      obtain ⟨gb, ob, hcut, hrb⟩ := cut_blk hrd h64 (64 * (j : Int)) (64 * (j : Int) + 64) (by omega) (by omega)
      have HRb := Lib.hid hrb
      have HCut := Lib.hid hcut
      have HAb := Lib.hid (absorb_blk K0 iv b j)
      have HBl := Lib.hid (blk_length h64)
      clear hrd hrb hcut
      generalize blk b j = bj at *
      generalize hs1 : absorb K0 (j + 1) iv b = s1 at *
      have HS1 := Lib.hid hs1
      clear hs1
      generalize absorb K0 j iv b = s0 at *
      go_wp2_with fail
      refine wp_region_lexF (fun i => ([0, 0, 0, 0, 0, 0, 2] : List Nat).getD i 0) 7 (by kernel_rfl) (by kernel_rfl) ?_; intro wi hwi
      have HWi := Lib.hid (show Aft wr wi by rw [hwi]; exact (Below.refl _ _).drew)
      clear hwi
      refine lf_load_row rfl (by kernel_rfl) 116 (.tmp 4) rfl w3.heap.size rfl _ (stArr s0) _ _ (Aft.get HWi.out HV.out) Tryd.underlying116 rfl (st_info _) ?_
      simp only [Act.put, List.setIfInBounds_toArray, List.set_cons_succ, List.set_cons_zero]
      have hcut := HCut.out
      repeat (first | (refine lf_skip (by go_big_quiet_skip; exact wpQuiet_nil trivial) (by kernel_rfl) ?_; simp only [Act.put, List.setIfInBounds_toArray, List.set_cons_succ, List.set_cons_zero]) | (refine lf_quiet rfl (by go_big_quiet_want; exact quiet_false (by assumption)) (by kernel_rfl) rfl ?_; intro Kx hKx; go_big_quiet_op; go_big_quiet_on))
      clear hcut
      refine lf_eff rfl (by go_big_quiet_want; exact quiet_false (by assumption)) (by kernel_rfl) ?_; intro wl hl Kx hKx; go_wp2_with fail
      have hlw := (show Aft wr wl from Aft.trans HWi.out hl)
      refine (block_any s0 gb ob 64 (c2 - 64 * j) bj wl (TabK_fr HK.out (Fr.of_below (S := fun _ => False) (Aft.trans HW.out hlw)) (fun h => h)) (HRb.out.grow hlw) (by rw [HBl.out]; omega)).mono ?_
      rintro e wm ⟨rfl, hm⟩
      rw [HAb.out]
      have HM := Lib.hid (show Aft wr wm from Aft.trans hlw hm)
      go_wp2_with fail
      refine ⟨hm, ?_⟩
      clear hm hl hlw
      repeat (first | (refine lf_skip (by go_big_quiet_skip; exact wpQuiet_nil trivial) (by kernel_rfl) ?_; simp only [Act.put, List.setIfInBounds_toArray, List.set_cons_succ, List.set_cons_zero]) | (refine lf_quiet rfl (by go_big_quiet_want; exact quiet_false (by assumption)) (by kernel_rfl) rfl ?_; intro Kx hKx; go_big_quiet_op; go_big_quiet_on))
      refine lf_done ?_
      intro wn1 hn1
      have HN := Lib.hid (show Aft wr wn1 from Aft.trans HM.out hn1)
      have HVn := Lib.hid (Aft.get HN.out HV.out)
      have HBn := Lib.hid (show Below w3.heap.size w3 wn1 from Below.trans HB.out (Below.mono HN.out (Below.size HB.out)))
      clear hn1
      go_wp2_with ((refine wpList_store_rowX rfl 116 (.tmp 4) (.tmp 22) rfl w3.heap.size (stArr s1) rfl rfl 116 (stArr s0) HVn.out (st_info _) (by rw [stArr_size, stArr_size]) (stArr_one _) ?_; intro wp q2 q3; have HVp := Lib.hid q2.out; have HBp := Lib.hid (q3 w3.heap.size w3 (Nat.le_refl _) HBn.out); clear q2 q3))
      go_roundw
      case rel => exact ⟨j + 1, by omega, by go_num, by rw [HS1.out]; exact HVp.out, HBp.out⟩
      case measure => simp [intOf]; omega
    · have hjl : j = b.length / 64 := by have := HWh.out; omega
      have hlt' : ¬ ((64 * j : Nat) : Int) < (b.length : Int) := by omega
      subst hjl
      have HKb := Lib.hid (fun wx => refKey_any (absorb K0 (b.length / 64) iv b) wx)
      rw [HDp.out] at HKb
      have HX := Lib.hid (show (digest K0 d).length = 32 from digest_length K0 d)
      generalize hX : digest K0 d = X at *
      have HXe := Lib.hid hX
      clear hX
      generalize absorb K0 (b.length / 64) iv b = s0 at *
      have HZr := Lib.hid ((Below.block HB.out w.heap.size (heap_lt HZ3.out)).trans HZ3.out)
      go_wp2_with ((refine wpList_load_row rfl 116 (.tmp 4) rfl w3.heap.size rfl 116 (stArr s0) (0, 0) _ HV.out Tryd.underlying116 rfl (st_info s0) ?_))
      refine (HKb.out _).mono ?_
      rintro e w6 ⟨rfl, hb6⟩
      have HZ6 := Lib.hid (Aft.get hb6 HZr.out)
      have HA6 := Lib.hid (Aft.trans HW.out hb6)
      clear hb6
      go_wp2_with ((refine wpList_store_keyX rfl (.tmp 2) (.tmp 24) rfl w.heap.size X HX.out rfl rfl HZ6.out ?_; intro w7 q2 q3; have HK7 := Lib.hid q2.out; have HB7 := Lib.hid (q3 w.heap.size w (Nat.le_refl _) HA6.out); clear q2 q3))
      have hsz8 : (Tryd.prog.info? 23).map (·.size) = some (bv X).toArray.size := by rw [List.size_toArray, bv_length, HX.out]; kernel_rfl
      refine bodyPost_ret (results_cell_row rfl _ _ w.heap.size 23 (bv X).toArray (0, 0) _ rfl HK7.out Tryd.underlying23 rfl hsz8) rfl ?_
      exact ⟨by rw [HD.out, HXe.out], HB7.out⟩
end Go.Proofs.YtanodhagpegbfaaDoor
/- coterielaw02.ShaSums: it answers true. -/
namespace Go.Proofs.YtanodhagpegbfaaDoor
open Go Go.RowKit
end Go.Proofs.YtanodhagpegbfaaDoor
/- coterieref02.New and Check. -/
namespace Go.Proofs.YtanodhagpegbfaaDoor
open Go Go.RowKit
end Go.Proofs.YtanodhagpegbfaaDoor
/- The words at the head of a sum that stands in a block: loaded, and stored, as an array. -/
namespace Go.Proofs.YtanodhagpegbfaaDoor
open Go Go.RowKit
theorem sha_words (s : St) (N : Nat) (vr : Value) : shaArr s N vr = ((stArr s).toList ++ [.int .u64 (N : Int), vr]).toArray := rfl
theorem stArr_len (s : St) : (stArr s).toList.length = 8 := rfl
theorem run_loadVar_st (w : World) (g : Nat) (s : St) (N : Nat) (vr : Value) (hg : w.heap[g]? = some (.cells (shaArr s N vr) 118 (0, 0))) :
    (loadVar 116 ⟨g, 0, none⟩).run Tryd.prog w = .ok (.agg (stArr s)) w := by
  have hl : (loadCells ⟨g, 0, none⟩ (stArr s).toList.length).run Tryd.prog w = .ok (stArr s).toList.toArray w :=
    run_loadCells_list (P := Tryd.prog) w ⟨g, 0, none⟩ (stArr s).toList (fun j v hv => by
      have hj : j < (stArr s).toList.length := (List.getElem?_eq_some_iff.1 hv).1
      have hadd : (⟨g, 0, none⟩ : Addr).add j = ⟨g, j, none⟩ := by unfold Addr.add; split <;> simp_all
      rw [hadd, cell_of_row w g j _ _ _ hg, sha_words, List.getElem?_toArray, List.getElem?_append_left hj]
      exact hv)
  obtain ⟨i, hq, hs⟩ := Option.map_eq_some_iff.1 (st_info s)
  have hagg : (isAgg 116).run Tryd.prog w = .ok true w := by
    unfold isAgg
    rw [Sem.run_bind, run_underlying Tryd.underlying116 w]
    rfl
  simp only [Array.length_toList, Array.toArray_toList] at hl
  simp [loadVar, Sem.run_bind, hagg, sizeOf, typeInfo, hq, hs, hl]
theorem run_storeVar_st (w : World) (g : Nat) (s s' : St) (N : Nat) (vr : Value) (hg : w.heap[g]? = some (.cells (shaArr s N vr) 118 (0, 0))) :
    (storeVar 116 ⟨g, 0, none⟩ (.agg (stArr s'))).run Tryd.prog w = .ok () (w.setRow g (shaArr s' N vr)) := by
  have h := run_storeCells_at Tryd.prog g 0 118 (stArr s').toList 0 (shaArr s N vr) w hg (by rw [stArr_len]; show 8 ≤ 10; decide) (fun v hv => (Array.all_eq_true_iff_forall_mem.1 (stArr_one s')) v (by simpa using hv))
  have e : ((shaArr s N vr).toList.take (0 + 0) ++ (stArr s').toList ++ (shaArr s N vr).toList.drop (0 + 0 + (stArr s').toList.length)).toArray = shaArr s' N vr := rfl
  rw [e] at h
  obtain ⟨i, hq, hs⟩ := Option.map_eq_some_iff.1 (st_info s')
  have hs' : (stArr s').size = i.size := hs.symm
  simp [storeVar, sizeOf, typeInfo, hq, Value.cells, hs', h]
section
variable {ops : Array Oper} {rest : List Oper} {o : Oper} {a : Act} {w : World} {Q : Exit → Act → World → Prop}
theorem wpList_load_st (hgd : o.guard = none) (x : Operand) (ho : o.op = .load 116 x)
    (g : Nat) (s : St) (N : Nat) (vr : Value) (hx : a.eval x = .pointer (some ⟨g, 0, none⟩)) (hg : w.heap[g]? = some (.cells (shaArr s N vr) 118 (0, 0)))
    (h : wpList Tryd.prog ops Q rest (a.put o.dst (.agg (stArr s))) w) : wpList Tryd.prog ops Q (o :: rest) a w :=
  wpList_plain hgd fun K hK => by
    unfold Oper.wp execOp
    simp only [ho, hx, Instr.loadAt, Instr.sureAddr, Sem.run_bind, Sem.run_pure, Result.andThen_ok, run_loadVar_st w g s N vr hg]
    exact hK _ _ h
theorem wpList_store_st (hgd : o.guard = none) (x y : Operand) (ho : o.op = .store 116 x y)
    (g : Nat) (s s' : St) (N : Nat) (vr : Value) (hx : a.eval x = .pointer (some ⟨g, 0, none⟩)) (hy : a.eval y = .agg (stArr s')) (hg : w.heap[g]? = some (.cells (shaArr s N vr) 118 (0, 0)))
    (h : ∀ w', Hid (w'.heap[g]? = some (.cells (shaArr s' N vr) 118 (0, 0))) → Hid (Fr (fun k => k = g) w w') → wpList Tryd.prog ops Q rest (a.put o.dst undef) w') : wpList Tryd.prog ops Q (o :: rest) a w :=
  wpList_plain hgd fun K hK => by
    unfold Oper.wp execOp
    simp only [ho, hx, hy, Instr.storeAt, Instr.sureAddr, Sem.run_bind, Sem.run_pure, Result.andThen_ok, run_storeVar_st w g s s' N vr hg]
    exact hK _ _ (h _ (show _ = _ from setRow_heap _ _ _ _ _ _ hg) (show Fr _ _ _ from ⟨rfl, rfl, rfl, by simp, fun k _ hk => setRow_other w g k _ hk⟩))
end
section
variable {ops : Array Oper} {w0 : World} {Kd : Nat → Nat} {Q : Exit → Act → World → Prop} {n k : Nat} {o : Oper} {l : List Oper} {a : Act} {w : World}
theorem lf_load_st (hk : Kd k = 0) (hw : Region.wanted o (yielded ops a.tmps) = true) (x : Operand) (ho : o.op = .load 116 x)
    (g : Nat) (hx : a.eval x = .pointer (some ⟨g, 0, none⟩)) (s : St) (N : Nat) (vr : Value) (hg : w0.heap[g]? = some (.cells (shaArr s N vr) 118 (0, 0)))
    (h : wpFx Tryd.prog ops w0 Kd Q n (k + 1) l (a.put o.dst (.agg (stArr s))) w) : wpFx Tryd.prog ops w0 Kd Q (n + 1) k (o :: l) a w := by
  have hup := wpFx_up (P := Tryd.prog) (ops := ops) (w0 := w0) (Kd := Kd) (Q := Q) n (k + 1) l
  simp only [wpFx_succ, stepF, hw, if_true, hk]
  rw [if_neg (by omega)]
  refine ⟨none, fun _ => .agg (stArr s), fun _ => rfl, fun w1 hw1 _ => .inl ?_, fun w1 g hw1 _ => hup _ _ _ hw1 h⟩
  unfold execOp
  simp only [ho, hx, Instr.loadAt, Instr.sureAddr, Sem.run_bind, Sem.run_pure, Result.andThen_ok, run_loadVar_st w1 g s N vr (hw1.get hg)]
end
end Go.Proofs.YtanodhagpegbfaaDoor

