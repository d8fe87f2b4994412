/- mac.Expand: bytes of a key. -/
import Derived.Test.YtifehfcgmodmaaaDoorMore
namespace Go.Proofs.YtifehfcgmodmaaaDoor
open Go Go.RowKit
def expT (K : Nat → BitVec 32) (k info : List (BitVec 8)) : Nat → List (BitVec 8)
  | 0 => []
  | i + 1 => macOf K k (expT K k info i ++ (info ++ [BitVec.ofNat 8 (i + 1)]))
def expOut (K : Nat → BitVec 32) (k info : List (BitVec 8)) : Nat → List (BitVec 8)
  | 0 => []
  | i + 1 => expOut K k info i ++ expT K k info (i + 1)
theorem expT_length (K : Nat → BitVec 32) (k info : List (BitVec 8)) : ∀ i, (expT K k info i).length ≤ 32
  | 0 => by simp [expT]
  | i + 1 => by rw [expT, macOf_length]; omega
theorem expOut_length (K : Nat → BitVec 32) (k info : List (BitVec 8)) : ∀ i, (expOut K k info i).length = 32 * i
  | 0 => rfl
  | i + 1 => by rw [expOut, List.length_append, expOut_length K k info i, expT, macOf_length]; omega
structure expInv (w : World) (B : Nat) (k inf : List (BitVec 8)) (vi : Value) (m : Nat) (v : Value) (wr : World) : Prop where
  key : wr.heap[B]? = some (.cells (bv k).toArray 28 (0, 0))
  info : wr.heap[B + 1]? = some (.cells #[vi] 25 (0, 0))
  last : ∃ vl, wr.heap[B + 2]? = some (.cells #[vl] 25 (0, 0)) ∧ Rd wr vl (bv (expT K0 k inf m)) ∧ ∀ g, vl.ownBlock = some g → ¬ moreS B g
  turn : wr.heap[B + 3]? = some (.cells #[.int .u8 (bn (BitVec.ofNat 8 m))] 5 (0, 0))
  own : wr.ownsRow (B + 4) 5 1 v (bv (expOut K0 k inf m)).length (bv (expOut K0 k inf m))
  aft : Aft w wr
def mkRow (n : Nat) : Array Value := madeCells #[.int .u8 0] n
theorem mkRow_size (n : Nat) : (mkRow n).size = n := by rw [mkRow, size_madeCells]
theorem exp_start (w : World) (k inf : List (BitVec 8)) (vi : Value) (c : Nat) (hc : c ≤ maxLen) :
    expInv w w.heap.size k inf vi 0 (.slice (some ⟨w.heap.size + 4, 0, none⟩) 0 c) (((((w.alloc (.cells (bv k).toArray 28)).alloc (.cells #[vi] 25)).alloc (.cells #[.slice none 0 0] 25)).alloc (.cells #[.int .u8 0] 5)).alloc (.cells (mkRow c) 5)) := by
  have a0 := heap_alloc_new w (.cells (bv k).toArray 28)
  have a1 := heap_alloc_new (w.alloc (.cells (bv k).toArray 28)) (.cells #[vi] 25)
  have a2 := heap_alloc_new ((w.alloc (.cells (bv k).toArray 28)).alloc (.cells #[vi] 25)) (.cells #[.slice none 0 0] 25)
  have a3 := heap_alloc_new (((w.alloc (.cells (bv k).toArray 28)).alloc (.cells #[vi] 25)).alloc (.cells #[.slice none 0 0] 25)) (.cells #[.int .u8 0] 5)
  have b0 := Aft.alloc w (.cells (bv k).toArray 28)
  have b1 := Aft.alloc (w.alloc (.cells (bv k).toArray 28)) (.cells #[vi] 25)
  have b2 := Aft.alloc ((w.alloc (.cells (bv k).toArray 28)).alloc (.cells #[vi] 25)) (.cells #[.slice none 0 0] 25)
  have b3 := Aft.alloc (((w.alloc (.cells (bv k).toArray 28)).alloc (.cells #[vi] 25)).alloc (.cells #[.slice none 0 0] 25)) (.cells #[.int .u8 0] 5)
  have b4 := Aft.alloc ((((w.alloc (.cells (bv k).toArray 28)).alloc (.cells #[vi] 25)).alloc (.cells #[.slice none 0 0] 25)).alloc (.cells #[.int .u8 0] 5)) (.cells (mkRow c) 5)
  have hm := World.ownsRow_made (base := w.heap.size + 4) (e := 5) (size := 1) ((((w.alloc (.cells (bv k).toArray 28)).alloc (.cells #[vi] 25)).alloc (.cells #[.slice none 0 0] 25)).alloc (.cells #[.int .u8 0] 5)) (mkRow c) c (by simp only [World.size_alloc]; omega) hc (by rw [mkRow_size, Nat.mul_one])
  simp only [World.size_alloc, Nat.add_assoc, Nat.reduceAdd] at a1 a2 a3 hm
  exact ⟨Aft.get (Aft.trans b1 (Aft.trans b2 (Aft.trans b3 b4))) a0, Aft.get (Aft.trans b2 (Aft.trans b3 b4)) a1, ⟨_, Aft.get (Aft.trans b3 b4) a2, Rd.nil _, fun g hg => by simp [Value.ownBlock] at hg⟩, Aft.get b4 a3, hm, Aft.trans b0 (Aft.trans b1 (Aft.trans b2 (Aft.trans b3 b4)))⟩
theorem ofNat_succ (m : Nat) : BitVec.ofNat 8 m + 1 = BitVec.ofNat 8 (m + 1) := by
  apply BitVec.eq_of_toNat_eq
  rw [BitVec.toNat_add, BitVec.toNat_ofNat, BitVec.toNat_ofNat]
  have h1 : (1 : BitVec 8).toNat = 1 := rfl
  rw [h1]
  omega
theorem cut_whole {P : Program} {t e : TypeId} (ht : P.underlying t = some (.slice e)) {ao : Option Addr} {len cap n : Nat} (hn : n ≤ cap) (w : World) {i : TypeInfo} (hi : P.info? e = some i) :
    (Instr.slice t (.slice ao len cap) none (some (.int .i64 (n : Int))) (some (.int .i64 (n : Int)))).run P w = .ok (.slice ao n n) w := by
  have he : P.elem t = e := by simp [Program.elem, ht]
  rw [run_slice_hm w t ao len cap (by rw [he]; exact ht) .i64 .i64 (n : Int) (n : Int) (by omega) (by omega) (by omega), he, run_sizeOf w hi]
  simp only [Result.andThen, sliced, Int.toNat_natCast, Nat.zero_mul, Nat.sub_zero]
  cases ao <;> simp [Addr.add]
theorem Rd.whole {w : World} {ao : Option Addr} {cap len : Nat} {xs : List Value} (h : Rd w (.slice ao len cap) xs) {n : Nat} (hn : n ≤ xs.length) : Rd w (.slice ao n n) (xs.take n) := by
  obtain ⟨ao', cap', hv, h1, h2, h3, h4⟩ := h
  cases hv
  refine ⟨ao, n, by rw [List.length_take, Nat.min_eq_left hn], by rw [List.length_take]; omega, by omega, fun e => (by have := h3 e; omega), fun ad ha j u hu => h4 ad ha j u ?_⟩
  rw [List.getElem?_take] at hu
  split at hu
  · exact hu
  · cases hu
theorem exp_step {w wr w2 w3 : World} {k inf : List (BitVec 8)} {vi v v3 : Value} {m g : Nat} (h : expInv w w.heap.size k inf vi m v wr) (hg : wr.heap.size ≤ g)
    (h1 : w2.heap[g]? = some (.cells (bv (expT K0 k inf (m + 1))).toArray 28 (0, 0))) (h2 : w2.heap[w.heap.size + 2]? = some (.cells #[.slice (some ⟨g, 0, none⟩) 32 32] 25 (0, 0)))
    (h3 : w2.heap[w.heap.size + 3]? = some (.cells #[.int .u8 (bn (BitVec.ofNat 8 m + 1))] 5 (0, 0))) (hf : Fr (moreS w.heap.size) wr w2)
    (k1 : w3.ownsRow (w.heap.size + 4) 5 1 v3 (bv (expOut K0 k inf m) ++ bv (expT K0 k inf (m + 1))).length (bv (expOut K0 k inf m) ++ bv (expT K0 k inf (m + 1)))) (k2 : w2.grownBy w3 v.ownBlock) : expInv w w.heap.size k inf vi (m + 1) v3 w3 := by
  have hsz := hf.size
  have hl4 := heap_lt h.turn
  have own : ∀ b, v.ownBlock = some b → w.heap.size + 4 ≤ b ∧ b < wr.heap.size := fun b hb => own_lt h.own hb
  have keep : ∀ b, b < w2.heap.size → v.ownBlock ≠ some b → w3.heap[b]? = w2.heap[b]? := fun b hb hne => k2.block b hb (fun e => hne e.symm)
  have low : ∀ b, b < w.heap.size + 4 → v.ownBlock ≠ some b := fun b hb e => by have := (own b e).1; omega
  have hgn : v.ownBlock ≠ some g := fun e => by have := (own g e).2; omega
  have hg2 := heap_lt h1
  have hkg := (keep g hg2 hgn).trans h1
  have hXl : (expT K0 k inf (m + 1)).length = 32 := by rw [expT, macOf_length]
  refine ⟨(keep _ (by omega) (low _ (by omega))).trans ((hf.block _ (by omega) (by unfold moreS; omega)).trans h.key), (keep _ (by omega) (low _ (by omega))).trans ((hf.block _ (by omega) (by unfold moreS; omega)).trans h.info), ⟨_, (keep _ (by omega) (low _ (by omega))).trans h2, Rd.of_key hkg hXl, fun b hb => ?_⟩, ?_, ?_, ?_⟩
  · simp only [Value.ownBlock, Option.some.injEq] at hb
    subst hb
    unfold moreS; omega
  · rw [← ofNat_succ]; exact (keep _ (by omega) (low _ (by omega))).trans h3
  · rw [expOut, bv_append]; exact k1
  · have ha := h.aft
    exact ⟨k2.os.trans (hf.os.trans ha.os), k2.tape.trans (hf.tape.trans ha.tape), k2.output.trans (hf.output.trans ha.output), by have := Below.size ha; have := k2.size; omega, fun b hb => (keep b (by have := Below.size ha; omega) (low b (by omega))).trans ((hf.block b (by have := Below.size ha; omega) (by unfold moreS; omega)).trans (Below.block ha b hb))⟩
theorem box_key (k : List (BitVec 8)) (w : World) : (Instr.box 28 (.agg (bv k).toArray)).run Tryd.prog w = .ok (.pointer (some ⟨w.heap.size, 0, none⟩)) (w.alloc (.cells (bv k).toArray 28)) := rfl
set_option maxRecDepth 100000 in
set_option maxHeartbeats 2000000 in
theorem expand_any (k info : List (BitVec 8)) (vi : Value) (n : Nat) (w : World) (hK : TabK K0 1 w) (hk : k.length = 32) (hi : Rd w vi (bv info)) (hil : info.length ≤ 1048576) (hn : n ≤ 8160) :
    Calls Tryd.prog 42 #[.agg (bv k).toArray, vi, .int .i64 (n : Int)] w fun e w' =>
      ∃ ao, e = .returned (.tuple #[.slice ao n n, .int .i64 0]) ∧ ∃ m, n ≤ 32 * m ∧ Rd w' (.slice ao n n) (bv ((expOut K0 k info m).take n)) ∧ Below w.heap.size w w' := by
  have HK := Lib.hid hK
  have HI := Lib.hid hi
  have HKl := Lib.hid hk
  have hbk := box_key k
  obtain ⟨ai, ci, rfl, -, -, -, -⟩ := hi
  obtain ⟨iB, hiB, hz1, hz2, hz3⟩ := info_parts info_byte
  have hmk : ∀ w, (Instr.makeSlice 25 (.int .i64 0) (.int .i64 ((n : Int) + 64))).run Tryd.prog w = .ok (.slice (some ⟨w.heap.size, 0, none⟩) 0 (n + 64)) (w.alloc (.cells (mkRow (n + 64)) 5)) := fun w => by
    have := run_make (P := Tryd.prog) w 25 5 iB (.int .u8 0) Tryd.underlying25 hiB hz1 .i64 .i64 0 ((n : Int) + 64) (by omega) (by omega) (by rw [hz3]; omega) (by omega)
    rw [this, hz2, show ((n : Int) + 64).toNat = n + 64 by omega, Nat.mul_one]
    rfl
  clear hz1 hz2 hz3 hiB
  have hil' : ¬ (1048576 : Int) < ((bv info).length : Nat) := by rw [bv_length]; omega
  have HIl := Lib.hid hil
  have hn0 : ¬ (n : Int) < 0 := by omega
  have hn1 : ¬ (8160 : Int) < (n : Int) := by omega
  clear hK hk hil
  go_enter Tryd.func42, Tryd.ntmps42
  go_wp2_with fail
  go_loopw [11] (fun v11 wr => ∃ m : Nat, 32 * m < n + 32 ∧ expInv w w.heap.size k info (.slice ai (bv info).length ci) m v11 wr) (fun v _ => n - lenV v)
  case atStart => exact ⟨0, by omega, exp_start w k info _ (n + 64) (by unfold maxLen; omega)⟩
  case round =>
    obtain ⟨m, hm, hinv⟩ := hrel
    obtain ⟨ao, co, rfl⟩ := own_shape hinv.own
    have hol := expOut_length K0 k info m
    have HInv := Lib.hid hinv
    have HOL := Lib.hid (show (bv (expOut K0 k info m)).length = 32 * m by rw [bv_length, hol])
    clear hinv hol
    by_cases hlt : 32 * m < n
    · have hlt' : ((bv (expOut K0 k info m)).length : Int) < (n : Int) := by rw [HOL.out]; omega
      have hgl : 1 < w.heap.size := by obtain ⟨_, cs, fr, h1, _⟩ := HK.out; exact heap_lt h1
      obtain ⟨vl, hl1, hl2, hl3⟩ := HInv.out.last
      have hmore := more_any w.heap.size k info (expT K0 k info m) (BitVec.ofNat 8 m) (.slice ai (bv info).length ci) vl wr (TabK_fr HK.out (Fr.of_below (S := fun _ => False) HInv.out.aft) (fun h => h)) hgl HKl.out HInv.out.key HInv.out.info hl1 HInv.out.turn (HI.out.grow HInv.out.aft) hl2 (fun g hg hx => by have := HI.out.lt hg hx; unfold moreS; omega) hl3 (by have := HIl.out; omega) (expT_length K0 k info m)
      have HM := Lib.hid hmore
      clear hmore hl1 hl2 hl3
      go_wp2_with fail
      refine HM.out.mono ?_
      rintro e w2 ⟨g, rfl, hge, h1, h2, h3, hfr⟩
      rw [ofNat_succ] at h1
      have HXl := Lib.hid (show (expT K0 k info (m + 1)).length = 32 by rw [expT, macOf_length])
      have HX := Lib.hid (show w2.heap[g]? = some (.cells (bv (expT K0 k info (m + 1))).toArray 28 (0, 0)) from h1)
      have HO2 := Lib.hid (ownsRow_fr HInv.out.own hfr (fun b hb => by have := (own_lt HInv.out.own hb).1; unfold moreS; omega))
      have HRk := Lib.hid (Rd.of_key HX.out HXl.out)
      have HE := Lib.hid (fun (v3 : Value) (w3 : World) k1 k2 => exp_step (v3 := v3) (w3 := w3) HInv.out hge HX.out h2 h3 hfr k1 k2)
      have HZ := Lib.hid (show w.heap.size + 4 ≤ w2.heap.size by have := heap_lt HInv.out.turn; have := hfr.size; have := heap_lt h1; omega)
      clear h1 h2 h3 hfr hge
      go_wp2_with ((at_builtin; refine wpList_append_rd rfl _ _ 25 rfl (w.heap.size + 4) 5 (.int .u8 0) 1 Tryd.underlying25 info_byte rfl (.slice ao (bv (expOut K0 k info m)).length co) (.slice (some ⟨g, 0, none⟩) 32 32) (bv (expOut K0 k info m)) (bv (expT K0 k info (m + 1))) rfl rfl HO2.out HRk.out (bv_one _) (by have := HOL.out; have := HXl.out; rw [bv_length (expT K0 k info (m + 1))]; omega) (by have := HOL.out; have := HXl.out; rw [bv_length (expT K0 k info (m + 1))]; omega) HZ.out ?_; intro v3 w3 k1 k2 k3; have hinv3 := HE.out v3 w3 k1 k2; clear k1 k2 k3))
      go_roundw
      case rel => exact ⟨m + 1, by omega, hinv3⟩
      case measure =>
        have hh := hinv3.own
        obtain ⟨a3, c3, rfl⟩ := own_shape hh
        have := expOut_length K0 k info (m + 1)
        have := HOL.out
        simp only [lenV, bv_length] at *
        omega
    · have hlt' : ¬ ((bv (expOut K0 k info m)).length : Int) < (n : Int) := by rw [HOL.out]; omega
      obtain ⟨iB, hiB, -, -, -⟩ := info_parts info_byte
      have hRd := Rd.of_own HInv.out.own
      have hsl := hRd.sl
      have hcut := fun wx => cut_whole (P := Tryd.prog) (ao := ao) (len := (bv (expOut K0 k info m)).length) (cap := co) (n := n) Tryd.underlying25 (by rw [HOL.out] at hsl; omega) wx hiB
      have HRd := Lib.hid (hRd.whole (n := n) (by rw [HOL.out]; omega))
      clear hRd hsl hiB
      go_wp2_with fail
      go_returns
      exact ⟨ao, rfl, m, by omega, by rw [bv_take]; exact HRd.out, HInv.out.aft⟩
end Go.Proofs.YtifehfcgmodmaaaDoor
