/- wire.put, wire.Num, and coterieref01.Num. -/
import Derived.Test.YtifehfcgmodmaaaDoorWireNum
import Derived.Test.YtifehfcgmodmaaaDoorRefPad
namespace Go.Proofs.YtifehfcgmodmaaaDoor
open Go Go.RowKit
theorem beL_take_succ (W x m : Nat) (h : m + 1 ≤ W) : (beL W x).take (W - m) = (beL W x).take (W - (m + 1)) ++ [BitVec.ofNat 8 (x / 256 ^ m)] := by
  have e : ∀ (W : Nat), m + 1 ≤ W → (beL W x)[W - (m + 1)]? = some (BitVec.ofNat 8 (x / 256 ^ m)) := by
    intro W
    induction W with
    | zero => intro h; omega
    | succ W ih =>
      intro h
      by_cases hm : m = W
      · subst hm
        rw [Nat.sub_self]
        rfl
      · rw [show W + 1 - (m + 1) = (W - (m + 1)) + 1 by omega]
        show (beL W x)[W - (m + 1)]? = _
        exact ih (by omega)
  have hl : W - (m + 1) < (beL W x).length := by rw [beL_length]; omega
  rw [show W - m = W - (m + 1) + 1 by omega, List.take_add_one, e W h]
  rfl
theorem shr_be (x m : Nat) : (x : Int) / 2 ^ (8 * m) % 256 = bn (BitVec.ofNat 8 (x / 256 ^ m)) := by
  rw [show (2 : Int) ^ (8 * m) = ((2 ^ (8 * m) : Nat) : Int) by simp, Nat.pow_mul, ← bn_mod, Int.natCast_ediv]
set_option maxRecDepth 100000 in
set_option maxHeartbeats 1000000 in
theorem put_any0 (v : Value) (d : List (BitVec 8)) (W x base : Nat) (w : World) (hown : w.ownsRow base 5 1 v (bv d).length (bv d)) (hbase : base ≤ w.heap.size) (hW : W ≤ 8) (hd : d.length ≤ 1099511627776) :
    Calls Tryd.prog 75 #[v, .int .i64 (W : Int), .int .u64 (x : Int)] w (Returns fun v' w' => w'.ownsRow base 5 1 v' (bv (d ++ beL W x)).length (bv (d ++ beL W x)) ∧ Below base w w') := by
  have HO := Lib.hid hown
  obtain ⟨a0, c0, rfl⟩ := own_shape hown
  clear hown
  go_enter Tryd.func75, Tryd.ntmps75
  go_wp2_with fail
  go_loopw [0, 7] (fun v0 v7 wr => ∃ k : Nat, k ≤ W ∧ v7 = .int .i64 ((k : Int) - 1) ∧ wr.ownsRow base 5 1 v0 (bv (d ++ (beL W x).take (W - k))).length (bv (d ++ (beL W x).take (W - k))) ∧ Below base w wr) (fun _ v7 _ => (intOf v7 + 1).toNat)
  case atStart => exact ⟨W, by omega, rfl, by rw [Nat.sub_self, List.take_zero, List.append_nil]; exact HO.out, Below.refl _ _⟩
  case round =>
    obtain ⟨k, hk, rfl, hown, hb⟩ := hrel
    have HOw := Lib.hid hown
    have HB := Lib.hid hb
    obtain ⟨al, cl, rfl⟩ := own_shape hown
    clear hown hb
    cases k with
    | zero =>
      have hlt' : ¬ (0 : Int) ≤ ((0 : Nat) : Int) - 1 := by omega
      have HT := Lib.hid (show d ++ (beL W x).take (W - 0) = d ++ beL W x by rw [Nat.sub_zero, List.take_of_length_le (by rw [beL_length]; omega)])
      generalize d ++ (beL W x).take (W - 0) = l at *
      go_wp2_with fail
      go_ret
      exact Returns.mk (by rw [← HT.out]; exact ⟨HOw.out, HB.out⟩)
    | succ m =>
      rw [show ((m + 1 : Nat) : Int) - 1 = (m : Int) by omega]
      have hlt' : (0 : Int) ≤ (m : Int) := by omega
      have hm8 : m < 8 := by omega
      have hsh := shr_be x m
      have HT := Lib.hid (show d ++ (beL W x).take (W - m) = (d ++ (beL W x).take (W - (m + 1))) ++ [BitVec.ofNat 8 (x / 256 ^ m)] by rw [beL_take_succ W x m hk, List.append_assoc])
      have HLl := Lib.hid (show (d ++ (beL W x).take (W - (m + 1))).length ≤ 1099511627776 + 8 by rw [List.length_append, List.length_take, beL_length]; omega)
      generalize d ++ (beL W x).take (W - (m + 1)) = l at *
      generalize BitVec.ofNat 8 (x / 256 ^ m) = y at *
      have HO1 := Lib.hid (HOw.out.alloc (.cells #[.int .u8 (bn y)] 5))
      have HR1 := Lib.hid (Rd.of_own (World.ownsRow_lit (base := wr.heap.size) (e := 5) (size := 1) wr #[.int .u8 (bn y)] 1 (Nat.le_refl _) (by decide) rfl))
      have HBs := Lib.hid (Below.size HB.out)
      have HBase := Lib.hid hbase
      clear hbase
      go_wp2_with ((at_builtin; refine wpList_append_rd rfl _ _ 25 rfl base 5 (.int .u8 0) 1 Tryd.underlying25 info_byte rfl (.slice al (bv l).length cl) (.slice (some ⟨wr.heap.size, 0, none⟩) 1 1) (bv l) [.int .u8 (bn y)] rfl rfl HO1.out HR1.out (bv_one8 y) (by have := HLl.out; simp [bv_length]; omega) (by have := HLl.out; simp [bv_length]; omega) (by have := HBs.out; have := HBase.out; rw [World.size_alloc]; omega) ?_; intro v3 w3 k1 k2 k3; have HO3 := Lib.hid (show w3.ownsRow base 5 1 v3 (bv (d ++ (beL W x).take (W - m))).length (bv (d ++ (beL W x).take (W - m))) by rw [HT.out, bv_append]; exact k1); have HB3 := Lib.hid (show Below base w w3 from (HB.out.alloc (by have := HBs.out; have := HBase.out; omega) (.cells #[.int .u8 (bn y)] 5)).grown k2 (by rw [World.size_alloc]; have := HBs.out; have := HBase.out; omega) (fun g hg => (own_lt HO1.out hg).1)); clear k1 k2 k3))
      go_roundw
      case rel => exact ⟨m, by omega, by go_num, HO3.out, HB3.out⟩
      case measure => simp [intOf]
theorem put_any (v : Value) (d : List (BitVec 8)) (W x base : Nat) (w : World) (hown : w.ownsRow base 5 1 v (bv d).length (bv d)) (hbase : base ≤ w.heap.size) (hW : W ≤ 8) (hd : d.length ≤ 1099511627776) :
    Calls Tryd.prog 75 #[v, .int .i64 (W : Int), .int .u64 (x : Int)] w (RetSl (bv (d ++ beL W x)).length fun v' w' => w'.ownsRow base 5 1 v' (bv (d ++ beL W x)).length (bv (d ++ beL W x)) ∧ Below base w w') :=
  (put_any0 v d W x base w hown hbase hW hd).mono fun _ _ h => RetSl.of_own h fun _ _ q => q.1
/-- Numbers, written. -/
def numsB (W : Nat) (ns : List Nat) : List (BitVec 8) := ns.flatMap (beL W)
theorem numsB_length (W : Nat) (ns : List Nat) : (numsB W ns).length = W * ns.length := by
  unfold numsB
  induction ns with
  | nil => simp
  | cons x ns ih => rw [List.flatMap_cons, List.length_append, ih, beL_length, List.length_cons, Nat.mul_succ]; omega
theorem numsB_succ (W : Nat) (ns : List Nat) (i : Nat) (h : i < ns.length) : numsB W (ns.take (i + 1)) = numsB W (ns.take i) ++ beL W (nat ns i) := by
  unfold numsB nat
  rw [List.take_add_one, List.getElem?_eq_getElem h, List.flatMap_append, List.getD_eq_getElem?_getD, List.getElem?_eq_getElem h]
  simp
/-- Whether numbers may be written in a width. -/
def numOk (W : Int) (ns : List Nat) : Bool := decide (1 ≤ W) && (decide (W ≤ 8) && !overB W.toNat ns)
def numErr (W : Int) (ns : List Nat) : Int := if numOk W ns then 0 else 1
def numB (d : List (BitVec 8)) (W : Int) (ns : List Nat) : List (BitVec 8) := if numOk W ns then d ++ numsB W.toNat ns else []
/-- What Num hands back. -/
def NumSays (d : List (BitVec 8)) (W : Int) (ns : List Nat) (w : World) (e : Ending) (w' : World) : Prop :=
  ∃ ao cap, e = .returned (.tuple #[.slice ao (bv (numB d W ns)).length cap, .int .i64 (numErr W ns)]) ∧ w'.ownsRow w.heap.size 5 1 (.slice ao (bv (numB d W ns)).length cap) (bv (numB d W ns)).length (bv (numB d W ns)) ∧ Below w.heap.size w w'
theorem NumSays.bad {d : List (BitVec 8)} {W : Int} {ns : List Nat} {w w' : World} (h : numOk W ns = false) (hb : Below w.heap.size w w') : NumSays d W ns w (.returned (.tuple #[.slice none 0 0, .int .i64 1])) w' := by
  refine ⟨none, 0, ?_, ?_, hb⟩ <;> simp only [numB, numErr, h] <;> first | rfl | exact World.ownsRow_nil _ _ _ _
theorem NumSays.good {d : List (BitVec 8)} {W : Nat} {ns : List Nat} {w w' : World} {v : Value} (h : numOk (W : Int) ns = true) (ho : w'.ownsRow w.heap.size 5 1 v (bv (d ++ numsB W ns)).length (bv (d ++ numsB W ns))) (hb : Below w.heap.size w w') :
    NumSays d (W : Int) ns w (.returned (.tuple #[v, .int .i64 0])) w' := by
  have hB : numB d (W : Int) ns = d ++ numsB W ns := by unfold numB; rw [if_pos h, Int.toNat_natCast]
  obtain ⟨a, c, rfl⟩ := own_shape ho
  refine ⟨a, c, ?_, ?_, hb⟩
  · rw [hB]; unfold numErr; rw [if_pos h]
  · rw [hB]; exact ho
set_option maxRecDepth 100000 in
set_option maxHeartbeats 1000000 in
theorem num_any (vb vn : Value) (d : List (BitVec 8)) (W : Int) (ns : List Nat) (w : World) (hb : Rd w vb (bv d)) (hn : Rd w vn (nv ns)) (hns : ∀ x ∈ ns, x < 18446744073709551616) (hd : d.length ≤ 1073741824) (hl : ns.length ≤ 1073741824) :
    Calls Tryd.prog 44 #[vb, .int .i64 W, vn] w (NumSays d W ns w) := by
  have HB := Lib.hid hb
  have HN := Lib.hid hn
  have HL := Lib.hid hl
  have HD := Lib.hid hd
  obtain ⟨ab, cb, rfl, -, -, -, -⟩ := hb
  obtain ⟨an, cn, rfl, -, -, -, -⟩ := hn
  have HF := Lib.hid (Aft.alloc w (.cells #[.int .i64 W] 3))
  clear hd hl
  go_enter Tryd.func44, Tryd.ntmps44
  by_cases h1 : W < 1
  · have HQ := Lib.hid (show numOk W ns = false by unfold numOk; rw [decide_eq_false (by omega)]; rfl)
    go_wp2_with fail
    go_ret2
    exact NumSays.bad HQ.out HF.out
  · by_cases h2 : 8 < W
    · have HQ := Lib.hid (show numOk W ns = false by unfold numOk; rw [decide_eq_false (show ¬ W ≤ 8 by omega)]; simp)
      go_wp2_with fail
      go_ret2
      exact NumSays.bad HQ.out HF.out
    · obtain ⟨U, rfl⟩ : ∃ U : Nat, W = (U : Int) := ⟨W.toNat, by omega⟩
      have hbox : (w.alloc (.cells #[.int .i64 (U : Int)] 3)).cell? ⟨w.heap.size, 0, none⟩ = some (.int .i64 (U : Int)) := by rw [cell_of_row _ _ _ _ _ _ (heap_alloc_new w _)]; rfl
      have HC := Lib.hid (containsFunc_any _ ns w.heap.size U _ (HN.out.grow HF.out) hbox (by omega) hns)
      have HX := Lib.hid (show numOk (U : Int) ns = !overB U ns by unfold numOk; rw [decide_eq_true (show (1 : Int) ≤ U by omega), decide_eq_true (show (U : Int) ≤ 8 by omega), Int.toNat_natCast]; simp)
      have HBox := Lib.hid hbox
      clear hbox
      go_wp2_with fail
      refine HC.out.mono ?_
      rintro e w1 ⟨rfl, rfl⟩
      cases ho : overB U ns with
      | true =>
        have HQ := Lib.hid (show numOk (U : Int) ns = false by rw [HX.out, ho]; rfl)
        go_wp2_with fail
        go_ret2
        exact NumSays.bad HQ.out HF.out
      | false =>
        have HQ := Lib.hid (show numOk (U : Int) ns = true by rw [HX.out, ho]; rfl)
        clear ho
        go_wp2_with fail
        refine (clone_any _ _ _ (HB.out.grow HF.out) (bv_one _) (by rw [bv_length]; have := HD.out; omega)).mono ?_
        rintro e w2 ⟨a2, c2, rfl, ho2, hb2⟩
        rw [World.size_alloc] at ho2 hb2
        have HO2 := Lib.hid ho2
        have HF2 := Lib.hid (show Below (w.heap.size + 1) (w.alloc (.cells #[.int .i64 (U : Int)] 3)) w2 from hb2)
        have HS2 := Lib.hid (show w.heap.size + 1 ≤ w2.heap.size by have := Below.size hb2; rwa [World.size_alloc] at this)
        clear ho2 hb2
        go_wp2_with fail
        go_loopw [8, 26] (fun v8 v26 wr => ∃ i : Nat, i ≤ ns.length ∧ v26 = .int .i64 i ∧ wr.ownsRow (w.heap.size + 1) 5 1 v8 (bv (d ++ numsB U (ns.take i))).length (bv (d ++ numsB U (ns.take i))) ∧ Below (w.heap.size + 1) w2 wr) (fun _ v _ => ns.length - (intOf v).toNat)
        case atStart => exact ⟨0, by omega, rfl, by simp only [numsB, List.take_zero, List.flatMap_nil, List.append_nil]; exact HO2.out, Below.refl _ _⟩
        case round =>
          obtain ⟨i, hi, rfl, hown, hbw⟩ := hrel
          have HOw := Lib.hid hown
          have HBw := Lib.hid (show Below (w.heap.size + 1) (w.alloc (.cells #[.int .i64 (U : Int)] 3)) wr from HF2.out.trans hbw)
          have HB2 := Lib.hid hbw
          have HSr := Lib.hid (Nat.le_trans HS2.out (Below.size hbw))
          obtain ⟨al, cl, rfl⟩ := own_shape hown
          have HAll := Lib.hid (show Aft w wr from Below.trans HF.out (Below.mono HBw.out (by omega)))
          clear hown hbw
          by_cases hlt : i < ns.length
          · have hlt' : (i : Int) < ((nv ns).length : Nat) := by rw [nv_length]; omega
            have hi63 : (i : Int) + 1 ≤ 9223372036854775807 := by have := HL.out; omega
            obtain ⟨g, o, rfl, -, hca⟩ := HN.out.some_of (by rw [nv_length]; omega)
            have hcell := (HN.out.grow HAll.out).nat_at hlt
            have hbx : wr.cell? ⟨w.heap.size, 0, none⟩ = some (.int .i64 (U : Int)) := (Below.cell HBw.out (p := ⟨w.heap.size, 0, none⟩) (Nat.lt_succ_self _)).trans HBox.out
            have HT := Lib.hid (show d ++ numsB U (ns.take (i + 1)) = (d ++ numsB U (ns.take i)) ++ beL U (nat ns i) by rw [numsB_succ U ns i hlt, List.append_assoc])
            have HLl := Lib.hid (show (d ++ numsB U (ns.take i)).length ≤ 1099511627776 by have := HD.out; have := HL.out; rw [List.length_append, numsB_length, List.length_take]; have : U * min i ns.length ≤ 8 * 1073741824 := Nat.mul_le_mul (by omega) (by omega); omega)
            generalize d ++ numsB U (ns.take i) = l at *
            generalize nat ns i = x at *
            have HP := Lib.hid (put_any (.slice al (bv l).length cl) l U x (w.heap.size + 1) wr HOw.out HSr.out (by omega) HLl.out)
            go_wp2_with fail
            refine HP.out.mono ?_
            rintro e w3 ⟨a3, c3, rfl, ho3, hb3⟩
            rw [← HT.out] at ho3 ⊢
            have HO3 := Lib.hid ho3
            have HB3 := Lib.hid (HB2.out.trans hb3)
            clear ho3 hb3
            go_wp2_with fail
            go_roundw
            case rel => exact ⟨i + 1, by omega, by go_num, HO3.out, HB3.out⟩
            case measure => simp [intOf]; omega
          · obtain rfl : i = ns.length := by omega
            have hlt' : ¬ ((ns.length : Nat) : Int) < ((nv ns).length : Nat) := by rw [nv_length]; omega
            rw [List.take_length] at HOw ⊢
            go_wp2_with fail
            go_ret2
            exact NumSays.good HQ.out (ownsRow_mono HOw.out (by omega)) HAll.out
theorem fits_shr (U x : Nat) : fitsB U x = true ↔ ¬ (0 : Int) < (x : Int) / 2 ^ (8 * U) := by
  unfold fitsB
  rw [decide_eq_true_iff, show (2 : Int) ^ (8 * U) = ((2 ^ (8 * U) : Nat) : Int) by simp, Nat.pow_mul, ← Int.natCast_ediv]
  show x < 256 ^ U ↔ ¬ (0 : Int) < ((x / 256 ^ U : Nat) : Int)
  have hp : 0 < 256 ^ U := Nat.pow_pos (by omega)
  constructor
  · intro h; rw [Nat.div_eq_of_lt h]; omega
  · intro h
    have h0 : x / 256 ^ U = 0 := by
      apply Nat.eq_zero_of_not_pos
      intro hq
      exact h (Int.natCast_pos.2 hq)
    exact (Nat.div_eq_zero_iff_lt hp).1 h0
theorem fits_8 (x : Nat) (h : x < 18446744073709551616) : fitsB 8 x = true := decide_eq_true h
set_option maxRecDepth 100000 in
set_option maxHeartbeats 1000000 in
theorem refNum_any (vb vn : Value) (d : List (BitVec 8)) (W : Int) (ns : List Nat) (w : World) (hb : Rd w vb (bv d)) (hn : Rd w vn (nv ns)) (hns : ∀ x ∈ ns, x < 18446744073709551616) (hd : d.length ≤ 1073741824) (hl : ns.length ≤ 1073741824) :
    Calls Tryd.prog 45 #[vb, .int .i64 W, vn] w (NumSays d W ns w) := by
  have HB := Lib.hid hb
  have HN := Lib.hid hn
  have HL := Lib.hid hl
  have HD := Lib.hid hd
  obtain ⟨ab, cb, rfl, -, -, -, -⟩ := hb
  obtain ⟨an, cn, rfl, -, -, -, -⟩ := hn
  clear hd hl
  go_enter Tryd.func45, Tryd.ntmps45
  by_cases h1 : W < 1
  · have HQ := Lib.hid (show numOk W ns = false by unfold numOk; rw [decide_eq_false (by omega)]; rfl)
    go_wp2_with fail
    go_ret2
    exact NumSays.bad HQ.out (Below.refl _ _)
  · by_cases h2 : 8 < W
    · have HQ := Lib.hid (show numOk W ns = false by unfold numOk; rw [decide_eq_false (show ¬ W ≤ 8 by omega)]; simp)
      go_wp2_with fail
      go_ret2
      exact NumSays.bad HQ.out (Below.refl _ _)
    · obtain ⟨U, rfl⟩ : ∃ U : Nat, W = (U : Int) := ⟨W.toNat, by omega⟩
      have HX := Lib.hid (show numOk (U : Int) ns = !overB U ns by unfold numOk; rw [decide_eq_true (show (1 : Int) ≤ U by omega), decide_eq_true (show (U : Int) ≤ 8 by omega), Int.toNat_natCast]; simp)
      go_wp2_with fail
      refine (copy_any _ d w HB.out (by have := HD.out; omega)).mono ?_
      rintro e w2 ⟨a2, c2, rfl, ho2, hb2⟩
      have HO2 := Lib.hid ho2
      have HF2 := Lib.hid (show Aft w w2 from hb2)
      clear ho2 hb2
      go_wp2_with fail
      go_loopw [8, 21] (fun v8 v21 wr => ∃ i : Nat, i ≤ ns.length ∧ v21 = .int .i64 i ∧ wr.ownsRow w.heap.size 5 1 v8 (bv (d ++ numsB U (ns.take i))).length (bv (d ++ numsB U (ns.take i))) ∧ Aft w wr ∧ ∀ j, j < i → fitsB U (nat ns j) = true) (fun _ v _ => ns.length - (intOf v).toNat)
      case atStart => exact ⟨0, by omega, rfl, by simp only [numsB, List.take_zero, List.flatMap_nil, List.append_nil]; exact HO2.out, HF2.out, fun j hj => by omega⟩
      case round =>
        obtain ⟨i, hi, rfl, hown, hbw, hall⟩ := hrel
        have HOw := Lib.hid hown
        have HAll := Lib.hid hbw
        have HFi := Lib.hid hall
        obtain ⟨al, cl, rfl⟩ := own_shape hown
        clear hown hbw hall
        by_cases hlt : i < ns.length
        · have hlt' : (i : Int) < ((nv ns).length : Nat) := by rw [nv_length]; omega
          have hi63 : (i : Int) + 1 ≤ 9223372036854775807 := by have := HL.out; omega
          obtain ⟨g, o, rfl, -, hca⟩ := HN.out.some_of (by rw [nv_length]; omega)
          have hcell := (HN.out.grow HAll.out).nat_at hlt
          have HT := Lib.hid (show d ++ numsB U (ns.take (i + 1)) = (d ++ numsB U (ns.take i)) ++ beL U (nat ns i) by rw [numsB_succ U ns i hlt, List.append_assoc])
          have HLl := Lib.hid (show (d ++ numsB U (ns.take i)).length ≤ 1099511627776 by have := HD.out; have := HL.out; rw [List.length_append, numsB_length, List.length_take]; have : U * min i ns.length ≤ 8 * 1073741824 := Nat.mul_le_mul (by omega) (by omega); omega)
          have hx64 := nat_lt hns i
          have hov := @overB_true U ns i hlt
          have HOv := Lib.hid hov
          have HFn := Lib.hid (fun (h : fitsB U (nat ns i) = true) => (fun j (hj : j < i + 1) => by
            by_cases hj2 : j < i
            · exact HFi.out j hj2
            · obtain rfl : j = i := by omega
              exact h : ∀ j, j < i + 1 → fitsB U (nat ns j) = true))
          clear hov
          generalize d ++ numsB U (ns.take i) = l at *
          generalize nat ns i = x at HT HOv HFn hcell hx64
          have HX64 := Lib.hid hx64
          by_cases hU : U < 8
          · have hU' : (U : Int) < 8 := by omega
            cases hf : fitsB U x with
            | false =>
              have hsh : (0 : Int) < (x : Int) / 2 ^ (8 * U) := by
                have := fits_shr U x
                rw [hf] at this
                exact Classical.byContradiction fun h => absurd (this.2 h) (by decide)
              have HQ := Lib.hid (show numOk (U : Int) ns = false by rw [HX.out, HOv.out hf]; rfl)
              clear hf
              go_wp2_with fail
              go_ret2
              exact NumSays.bad HQ.out HAll.out
            | true =>
              have hsh : ¬ (0 : Int) < (x : Int) / 2 ^ (8 * U) := (fits_shr U x).1 hf
              have HFn1 := Lib.hid (HFn.out hf)
              clear hf
              go_wp2_with fail
              refine (refBytes_any U x wr (by omega) HX64.out).mono ?_
              rintro e w3 ⟨a3, c3, rfl, ho3, hb3⟩
              have HO3 := Lib.hid (ownsRow_below HOw.out (w' := w3) fun g hg => Below.block hb3 g (own_lt HOw.out hg).2)
              have HR3 := Lib.hid (Rd.of_own ho3)
              have HA3 := Lib.hid (show Aft w w3 from Aft.trans HAll.out hb3)
              have HBl := Lib.hid (show (bv (beL U x)).length ≤ 8 by rw [bv_length, beL_length]; omega)
              clear ho3 hb3
              go_wp2_with ((at_builtin; refine wpList_append_rd rfl _ _ 25 rfl w.heap.size 5 (.int .u8 0) 1 Tryd.underlying25 info_byte rfl (.slice al (bv l).length cl) (.slice a3 (bv (beL U x)).length c3) (bv l) (bv (beL U x)) rfl rfl HO3.out HR3.out (bv_one _) (by have := HLl.out; have := HBl.out; rw [bv_length]; omega) (by have := HLl.out; have := HBl.out; rw [bv_length]; omega) (Below.size HA3.out) ?_; intro v4 w4 k1 k2 k3; have HO4 := Lib.hid (show w4.ownsRow w.heap.size 5 1 v4 (bv (d ++ numsB U (ns.take (i + 1)))).length (bv (d ++ numsB U (ns.take (i + 1)))) by rw [HT.out, bv_append]; exact k1); have HA4 := Lib.hid (show Aft w w4 from (show Below w.heap.size w w3 from HA3.out).grown k2 (Below.size HA3.out) (fun g hg => (own_lt HO3.out hg).1)); clear k1 k2 k3))
              go_roundw
              case rel => exact ⟨i + 1, by omega, by go_num, HO4.out, HA4.out, HFn1.out⟩
              case measure => simp [intOf]; omega
          · have hU' : ¬ (U : Int) < 8 := by omega
            have HFn1 := Lib.hid (HFn.out (by rw [show U = 8 by omega]; exact fits_8 x hx64))
            go_wp2_with fail
            refine (refBytes_any U x wr (by omega) HX64.out).mono ?_
            rintro e w3 ⟨a3, c3, rfl, ho3, hb3⟩
            have HO3 := Lib.hid (ownsRow_below HOw.out (w' := w3) fun g hg => Below.block hb3 g (own_lt HOw.out hg).2)
            have HR3 := Lib.hid (Rd.of_own ho3)
            have HA3 := Lib.hid (show Aft w w3 from Aft.trans HAll.out hb3)
            have HBl := Lib.hid (show (bv (beL U x)).length ≤ 8 by rw [bv_length, beL_length]; omega)
            clear ho3 hb3
            go_wp2_with ((at_builtin; refine wpList_append_rd rfl _ _ 25 rfl w.heap.size 5 (.int .u8 0) 1 Tryd.underlying25 info_byte rfl (.slice al (bv l).length cl) (.slice a3 (bv (beL U x)).length c3) (bv l) (bv (beL U x)) rfl rfl HO3.out HR3.out (bv_one _) (by have := HLl.out; have := HBl.out; rw [bv_length]; omega) (by have := HLl.out; have := HBl.out; rw [bv_length]; omega) (Below.size HA3.out) ?_; intro v4 w4 k1 k2 k3; have HO4 := Lib.hid (show w4.ownsRow w.heap.size 5 1 v4 (bv (d ++ numsB U (ns.take (i + 1)))).length (bv (d ++ numsB U (ns.take (i + 1)))) by rw [HT.out, bv_append]; exact k1); have HA4 := Lib.hid (show Aft w w4 from (show Below w.heap.size w w3 from HA3.out).grown k2 (Below.size HA3.out) (fun g hg => (own_lt HO3.out hg).1)); clear k1 k2 k3))
            go_roundw
            case rel => exact ⟨i + 1, by omega, by go_num, HO4.out, HA4.out, HFn1.out⟩
            case measure => simp [intOf]; omega
        · obtain rfl : i = ns.length := by omega
          have hlt' : ¬ ((ns.length : Nat) : Int) < ((nv ns).length : Nat) := by rw [nv_length]; omega
          have HQ := Lib.hid (show numOk (U : Int) ns = true by rw [HX.out, overB_false HFi.out]; rfl)
          rw [List.take_length] at HOw ⊢
          go_wp2_with fail
          go_ret2
          exact NumSays.good HQ.out HOw.out HAll.out
end Go.Proofs.YtifehfcgmodmaaaDoor
