import Derived.Test.YtanodhagpegbfaaDoorA1
import Derived.Laws.CopyOwn
import Derived.Laws.BytesString
namespace Go.Proofs.YtanodhagpegbfaaDoor
open Go Go.RowKit
theorem run_sliceAt_low {P : Program} {t n e : Nat} (ht : P.underlying t = some (.array n e)) (hs : (P.info? e).map (·.size) = some 1) (b l : Nat) (hl : l < n) (x : Int) (hx : x = (l : Int)) (w : World) :
    (Instr.sliceAt t (.pointer (some ⟨b, 0, none⟩)) (some (.int .i64 x)) none none).run P w = .ok (.slice (some ⟨b, l, none⟩) (n - l) (n - l)) w := by
  subst hx
  obtain ⟨i0, hi0, hz⟩ := Option.map_eq_some_iff.1 hs
  have hn : P.arrayLen t = n := by simp [Program.arrayLen, ht]
  have he : P.elem t = e := by simp [Program.elem, ht]
  have ht' : P.underlying t = some (.array (P.arrayLen t) (P.elem t)) := by rw [hn, he]; exact ht
  rw [run_sliceAt_array_l w t _ ht' .i64 (l : Int) (by omega) (by rw [hn]; omega), he, hn]
  have : ¬ n = l := by omega
  have hc : P.cellsOf e = 1 := by simp [Program.cellsOf, hi0, hz]
  simp [run_sizeOf w hi0, slicedAt, hc, this, Addr.add]
  intro h0; exact h0.symm
/-- The end that a sum's bytes get: a bit, zeros, and how many bits there are. -/
def beByte (m : Nat) (t : Nat) : BitVec 8 := BitVec.ofNat 8 (m >>> (8 * (7 - t)))
def tailB (N j : Nat) : List (BitVec 8) := 128 :: (List.replicate (63 - (N + 8) % 64) 0 ++ (List.range j).map (beByte (N * 8)))
theorem tailB_succ (N j : Nat) : tailB N (j + 1) = tailB N j ++ [beByte (N * 8) j] := by simp [tailB, List.range_succ]
theorem tailB_length (N j : Nat) : (tailB N j).length = 64 - (N + 8) % 64 + j := by simp [tailB]; omega
def key0 : Array Value := #[.int .u8 0, .int .u8 0, .int .u8 0, .int .u8 0, .int .u8 0, .int .u8 0, .int .u8 0, .int .u8 0, .int .u8 0, .int .u8 0, .int .u8 0, .int .u8 0, .int .u8 0, .int .u8 0, .int .u8 0, .int .u8 0, .int .u8 0, .int .u8 0, .int .u8 0, .int .u8 0, .int .u8 0, .int .u8 0, .int .u8 0, .int .u8 0, .int .u8 0, .int .u8 0, .int .u8 0, .int .u8 0, .int .u8 0, .int .u8 0, .int .u8 0, .int .u8 0]
def finW (s : St) (N : Nat) (vr : Value) (w : World) : World := (w.alloc (.cells #[.int .u32 (wn s.a), .int .u32 (wn s.b), .int .u32 (wn s.c), .int .u32 (wn s.d), .int .u32 (wn s.e), .int .u32 (wn s.f), .int .u32 (wn s.g), .int .u32 (wn s.h), .int .u64 (N : Int), vr] 118)).alloc (.cells key0 23)
theorem finW_size (s : St) (N : Nat) (vr : Value) (w : World) : (finW s N vr w).heap.size = w.heap.size + 2 := by simp [finW, World.size_alloc]
theorem finW_below (s : St) (N : Nat) (vr : Value) (w : World) : Below w.heap.size w (finW s N vr w) := ((Below.refl _ _).alloc (Nat.le_refl _) _).alloc (by rw [World.size_alloc]; omega) _
def shaArr (s : St) (N : Nat) (vr : Value) : Array Value := #[.int .u32 (wn s.a), .int .u32 (wn s.b), .int .u32 (wn s.c), .int .u32 (wn s.d), .int .u32 (wn s.e), .int .u32 (wn s.f), .int .u32 (wn s.g), .int .u32 (wn s.h), .int .u64 (N : Int), vr]
theorem shaArr_at (s : St) (N : Nat) (vr : Value) (i : Nat) (hi : i < 10) : (shaArr s N vr)[i]? = some (shaCells s N vr i) := by
  have : i = 0 ∨ i = 1 ∨ i = 2 ∨ i = 3 ∨ i = 4 ∨ i = 5 ∨ i = 6 ∨ i = 7 ∨ i = 8 ∨ i = 9 := by omega
  rcases this with rfl | rfl | rfl | rfl | rfl | rfl | rfl | rfl | rfl | rfl <;> rfl
theorem shaRow (s : St) (N : Nat) (vr : Value) (w : World) : (w.alloc (.cells (shaArr s N vr) 118)).rowIs w.heap.size 118 10 (shaCells s N vr) :=
  World.rowIs_alloc w (shaArr s N vr) _ (shaCells s N vr) (fun i hi => shaArr_at s N vr i hi)
theorem finW_sha (s : St) (N : Nat) (vr : Value) (w : World) : (finW s N vr w).rowIs w.heap.size 118 10 (shaCells s N vr) :=
  (shaRow s N vr w).of_block (Below.heap_alloc _ _ _ (by rw [World.size_alloc]; omega))
/-- A word's bytes, the highest first; a state's. -/
def wbytes (x : BitVec 32) : List (BitVec 8) := [(x >>> 24).setWidth 8, (x >>> 16).setWidth 8, (x >>> 8).setWidth 8, x.setWidth 8]
theorem wn_b0 (x : BitVec 32) : wn x % (256 : Int) = bn (x.setWidth 8) := by unfold wn bn; rw [BitVec.toNat_setWidth]; omega
def keyPart (s : St) (t : Nat) : List (BitVec 8) := (List.range t).flatMap (fun i => wbytes (s.at i)) ++ List.replicate (32 - 4 * t) 0
theorem keyPart_low (s : St) (t : Nat) : ((List.range t).flatMap (fun i => wbytes (s.at i))).length = 4 * t := by
  induction t with
  | zero => rfl
  | succ t ih => rw [List.range_succ, List.flatMap_append, List.length_append, ih]; simp [wbytes]; omega
theorem keyPart_length (s : St) (t : Nat) (h : t ≤ 8) : (keyPart s t).length = 32 := by
  unfold keyPart; rw [List.length_append, keyPart_low, List.length_replicate]; omega
theorem keyPart_step (s : St) (t : Nat) (h : t < 8) : (keyPart s t).take (4 * t) ++ (wbytes (s.at t) ++ (keyPart s t).drop (4 * t + 4)) = keyPart s (t + 1) := by
  have e := keyPart_low s t
  unfold keyPart
  rw [List.take_append_of_le_length (by omega), List.take_of_length_le (by omega), List.drop_append, List.drop_of_length_le (by omega), List.nil_append, e, List.drop_replicate, List.range_succ, List.flatMap_append]
  simp only [List.flatMap_cons, List.flatMap_nil, List.append_nil, List.append_assoc]
  rw [show 32 - 4 * t - (4 * t + 4 - 4 * t) = 32 - 4 * (t + 1) by omega]
def keyBytes (s : St) : List (BitVec 8) := (List.range 8).flatMap (fun i => wbytes (s.at i))
theorem keyPart_end (s : St) : keyPart s 8 = keyBytes s := by simp [keyPart, keyBytes]
/-- The sum of a state, behind N bytes, with so many left. -/
def finKey (K : Nat → BitVec 32) (s : St) (N : Nat) (rest : List (BitVec 8)) : List (BitVec 8) := keyBytes (absorb K ((rest ++ tailB N 8).length / 64) s (rest ++ tailB N 8))
def padRow : Array Value := madeCells #[.int .u8 0] 128
theorem padRow_size : padRow.size = 128 := size_madeCells _ _
theorem padRow_eq : padRow.toList = List.replicate 128 (.int .u8 0) := toList_madeCells_one _ 128
theorem padRow_0 : padRow[0]? = some (.int .u8 0) := by rw [← Array.getElem?_toList, padRow_eq]; rfl
theorem tail_start (N : Nat) (w : World) (b g : Nat) (hg : g = w.heap.size) (hb : b ≤ w.heap.size) : (w.alloc (.cells (padRow.setIfInBounds 0 (.int .u8 128)) 5)).ownsRow b 5 1 (.slice (some ⟨g, 0, none⟩) (64 - (N + 8) % 64) 128) (bv (tailB N 0)).length (bv (tailB N 0)) := by
  subst hg
  have e : bv (tailB N 0) = (List.replicate (64 - (N + 8) % 64) (.int .u8 0)).set 0 (.int .u8 128) := by
    obtain ⟨k, hk⟩ : ∃ k, 64 - (N + 8) % 64 = k + 1 := ⟨63 - (N + 8) % 64, by omega⟩
    rw [hk, List.replicate_succ, List.set_cons_zero]
    unfold tailB bv
    rw [show 63 - (N + 8) % 64 = k by omega]
    simp [bn]
  rw [bv_length, tailB_length, e]
  have hn : 64 - (N + 8) % 64 ≤ 128 := by omega
  generalize 64 - (N + 8) % 64 = n at hn ⊢
  refine ⟨by simp, .inr ⟨w.heap.size, 128, _, rfl, hb, heap_alloc_new w _, hn, by decide, by rw [Array.size_setIfInBounds]; exact padRow_size, ?_⟩⟩
  rw [Array.toList_setIfInBounds, padRow_eq, List.take_set, List.take_replicate, Nat.mul_one, Nat.add_zero, Nat.min_eq_left hn]
theorem be_num (N t : Nat) : (N : Int) * 8 / 2 ^ (8 * (7 - t)) % 256 = bn (beByte (N * 8) t) := by
  unfold bn beByte
  rw [BitVec.toNat_ofNat, Nat.shiftRight_eq_div_pow, Int.natCast_emod, Int.natCast_ediv, Int.natCast_mul]
  simp
theorem Rd.lit (w : World) (cs : Array Value) (t n : Nat) (hn : cs.size = n) (hm : n ≤ maxLen) : Rd (w.alloc (.cells cs t)) (.slice (some ⟨w.heap.size, 0, none⟩) n n) cs.toList :=
  Rd.of_own (World.ownsRow_lit (base := 0) w cs n (Nat.zero_le _) hm (by omega))
theorem copy_word (k b t : Nat) (st : St) (w wr : World) (h8 : t < 8) (hkb : k ≤ b) (hrow : wr.heap[b]? = some (.cells (bv (keyPart st t)).toArray 23 (0, 0))) (hB : Below k w wr) :
    ∃ w2, (Builtin.copy_ #[24, 24] 3 #[.slice (some ⟨b, 4 * t, none⟩) (32 - 4 * t) (32 - 4 * t), .slice (some ⟨wr.heap.size, 0, none⟩) 4 4]).run Tryd.prog
      (wr.alloc (.cells #[.int .u8 (bn (BitVec.setWidth 8 (st.at t >>> 24))), .int .u8 (bn (BitVec.setWidth 8 (st.at t >>> 16))), .int .u8 (bn (BitVec.setWidth 8 (st.at t >>> 8))), .int .u8 (bn (BitVec.setWidth 8 (st.at t)))] 5)) = .ok (.int .i64 4) w2 ∧
      w2.heap[b]? = some (.cells (bv (keyPart st (t + 1))).toArray 23 (0, 0)) ∧ Below k w w2 := by
  have hb := heap_lt hrow
  have hk := hB.size
  have h1 := (Below.heap_alloc wr (.cells (bv (wbytes (st.at t))).toArray 5) b hb).trans hrow
  have h2 := run_copy_row Tryd.prog (wr.alloc (.cells (bv (wbytes (st.at t))).toArray 5)) 24 24 3 5 b (4 * t) (32 - 4 * t) (32 - 4 * t) ⟨wr.heap.size, 0, none⟩ 4 4 _ _ (bv (wbytes (st.at t))) Tryd.underlying24 (by kernel_rfl) h1
    (by rw [bv_length]; show 4 = min 4 (32 - 4 * t); omega) (fun j v hv => (World.ownsRow.cells (World.ownsRow_lit (base := 0) (e := 5) (size := 1) wr (bv (wbytes (st.at t))).toArray 4 (Nat.zero_le _) (by decide) rfl) rfl j v hv))
    (by rw [bv_length, List.size_toArray, bv_length, keyPart_length _ _ (by omega)]; show 4 * t + 4 ≤ 32; omega) (bv_one _)
  refine ⟨_, h2, ?_, ?_⟩
  · rw [setRow_heap _ _ _ _ _ _ h1, ← keyPart_step st t h8, bv_append, bv_append, bv_take, bv_drop, List.append_assoc]
    rfl
  · refine below_setRow (hB.alloc (by
      obtain hlt := hb
      omega) _) hkb _
theorem wn_shr24 (x : BitVec 32) : wn x / (16777216 : Int) = wn (x >>> 24) := wn_shr x 24
theorem wn_shr16 (x : BitVec 32) : wn x / (65536 : Int) = wn (x >>> 16) := wn_shr x 16
theorem wn_shr8 (x : BitVec 32) : wn x / (256 : Int) = wn (x >>> 8) := wn_shr x 8
theorem store_self {P : Program} {w : World} {b t : Nat} {l : List Value} (hg : w.heap[b]? = some (.cells l.toArray t (0, 0))) (h1 : ∀ u ∈ l, u.oneCell' = true) : (storeCells ⟨b, 0, none⟩ l).run P w = .ok () w := by
  rw [run_storeCells_at P b 0 t l 0 l.toArray w hg (by simp) h1]
  simp [setRow_self w b _ t (0, 0) hg]
attribute [local go_sem] wn_shr24 wn_shr16 wn_shr8 wn_b0
set_option maxRecDepth 100000 in
set_option maxHeartbeats 1000000 in
theorem finish_any (K : Nat → BitVec 32) (s : St) (N : Nat) (vr : Value) (rest : List (BitVec 8)) (w : World) (hK : TabK K 2 w) (hrd : Rd w vr (bv rest)) (hN : N ≤ 1125899906842624) (hlen : rest.length ≤ 1099511627776) :
    Calls Tryd.prog 91 #[.agg #[.int .u32 (wn s.a), .int .u32 (wn s.b), .int .u32 (wn s.c), .int .u32 (wn s.d), .int .u32 (wn s.e), .int .u32 (wn s.f), .int .u32 (wn s.g), .int .u32 (wn s.h), .int .u64 (N : Int), vr]] w fun e w' => e = .returned (.agg (bv (finKey K s N rest)).toArray) ∧ Below w.heap.size w w' := by
  have HR := Lib.hid hrd
  have HK := Lib.hid hK
  clear hrd hK
  obtain ⟨i0, hi, hz1, hz2, hz3⟩ := info_parts info_byte
  have hmk : ∀ w, (Instr.makeSlice 24 (.int .i64 (64 - ((N : Int) + 8) % 64)) (.int .i64 128)).run Tryd.prog w = .ok (.slice (some ⟨w.heap.size, 0, none⟩) (64 - (N + 8) % 64) 128) (w.alloc (.cells padRow 5)) := fun w => by
    have := run_make (P := Tryd.prog) w 24 5 i0 (.int .u8 0) Tryd.underlying24 hi hz1 .i64 .i64 (64 - ((N : Int) + 8) % 64) 128 (by omega) (by omega) (by rw [hz3]; omega) (by omega)
    rw [this, hz2, show (64 - ((N : Int) + 8) % 64).toNat = 64 - (N + 8) % 64 by omega]
    rfl
  have p0 := padRow_0
  have ps := padRow_size
  clear hi hz1 hz2 hz3
  go_enter Tryd.func91, Tryd.ntmps91
  go_wp2_with fail
  go_loopw [4, 5] (fun v4 v5 wr => ∃ j : Nat, j ≤ 8 ∧ v5 = .int .i64 (7 - (j : Int)) ∧ wr.ownsRow (w.heap.size + 2) 5 1 v4 (bv (tailB N j)).length (bv (tailB N j)) ∧ Below (w.heap.size + 2) (finW s N vr w) wr) (fun _ v5 _ => (intOf v5 + 1).toNat)
  case atStart =>
    exact ⟨0, by omega, rfl, tail_start N (finW s N vr w) _ _ (finW_size s N vr w).symm (Nat.le_of_eq (finW_size s N vr w).symm), (Below.refl _ (finW s N vr w)).alloc (Nat.le_of_eq (finW_size s N vr w).symm) _⟩
  case round =>
    obtain ⟨j, hj, rfl, ho, hb⟩ := hrel
    by_cases h8 : j < 8
    · have h8' : (0 : Int) ≤ 7 - (j : Int) := by omega
      have HO := Lib.hid ho
      have HB := Lib.hid hb
      clear ho hb
      have hbe := be_num N j
      go_wp2_with ((at_builtin; refine wpList_append_rd rfl _ _ 24 rfl (w.heap.size + 2) 5 (.int .u8 0) 1 Tryd.underlying24 info_byte rfl u4 (.slice (some ⟨wr.heap.size, 0, none⟩) 1 1) (bv (tailB N j)) [.int .u8 (bn (beByte (N * 8) j))] rfl rfl (HO.out.alloc _) (Rd.lit wr #[.int .u8 (bn (beByte (N * 8) j))] 5 1 rfl (by decide)) (by simp [Value.oneCell']) (by rw [bv_length, tailB_length]; simp; omega) (by rw [bv_length, tailB_length]; simp; omega) (by have := HB.out.size; rw [finW_size] at this; rw [World.size_alloc]; omega) ?_; intro v1 w1 k1 k2 k3))
      go_roundw
      case rel =>
        have hsz : w.heap.size + 2 ≤ wr.heap.size := by have := HB.out.size; rwa [finW_size] at this
        have hk1 : w1.ownsRow (w.heap.size + 2) 5 1 v1 (bv (tailB N (j + 1))).length (bv (tailB N (j + 1))) := by rw [tailB_succ, bv_append]; exact k1
        exact ⟨j + 1, by omega, by go_num, hk1, (HB.out.alloc hsz _).grown k2 (by rw [World.size_alloc]; omega) (fun g hg => (own_lt HO.out hg).1)⟩
      case measure => simp [intOf]; omega
    · obtain rfl : j = 8 := by omega
      have hsha := (finW_sha s N vr w).of_block (hb.block w.heap.size (by omega))
      have c9 := World.rowIs.cell hsha (i := 9) (by omega)
      rw [shaCells_9] at c9
      have f9 := World.rowIs.frozen hsha 9
      have HO := Lib.hid ho
      have HB := Lib.hid hb
      have HS := Lib.hid hsha
      clear ho hb hsha
      obtain ⟨wo, rfl⟩ : ∃ wo : World, wo = wr := ⟨_, rfl⟩
      have hsz : w.heap.size + 2 ≤ wo.heap.size := by have := HB.out.size; rwa [finW_size] at this
      have HR1 := Lib.hid (HR.out.grow (((finW_below s N vr w).trans (HB.out.mono (by omega)))))
      go_wp2_with fail
      refine (clone_any _ _ _ HR1.out (bv_one _) (by rw [bv_length]; omega)).mono ?_
      rintro e w2 ⟨ao, cap, rfl, ho2, hb2⟩
      have hsha2 := HS.out.of_block (hb2.block w.heap.size (by omega))
      have c9 := World.rowIs.cell hsha2 (i := 9) (by omega)
      rw [shaCells_9] at c9
      have f9 := World.rowIs.frozen hsha2 9
      have hown3 : (w2.setCell ⟨w.heap.size, 9, none⟩ (.slice ao (bv rest).length cap)).ownsRow (w.heap.size + 1) 5 1 (.slice ao (bv rest).length cap) (bv rest).length (bv rest) :=
        ownsRow_setCell_other (a := ⟨w.heap.size, 9, none⟩) (ownsRow_mono ho2 (by omega)) (fun e => by have := (own_lt ho2 e).1; simp only at this; omega) _
      have hrow3 : (w2.setCell ⟨w.heap.size, 9, none⟩ (.slice ao (bv rest).length cap)).rowIs w.heap.size 118 10 (shaCells s N (.slice ao (bv rest).length cap)) :=
        (World.rowIs.set hsha2 9 _).congr (shaCells_set9 s N vr _)
      have hrd3 : Rd (w2.setCell ⟨w.heap.size, 9, none⟩ (.slice ao (bv rest).length cap)) u4 (bv (tailB N 8)) :=
        ((Rd.of_own HO.out).grow hb2).setCell (fun g hg _ => by have := (own_lt HO.out hg).1; simp only; omega) _
      have hb3 : Below w.heap.size w (w2.setCell ⟨w.heap.size, 9, none⟩ (.slice ao (bv rest).length cap)) :=
        (((finW_below s N vr w).trans (HB.out.mono (by omega))).trans (hb2.mono (by omega))).setCell (Nat.le_refl _) _
      have hK3 : TabK K 2 (w2.setCell ⟨w.heap.size, 9, none⟩ (.slice ao (bv rest).length cap)) := TabK_fr HK.out (Fr.of_below (S := fun _ => False) hb3) (fun h => h)
      have hg : 2 < w.heap.size := by obtain ⟨_, cs, fr, h1, _⟩ := HK.out; exact heap_lt h1
      have hs3 : wo.heap.size ≤ (w2.setCell ⟨w.heap.size, 9, none⟩ (.slice ao (bv rest).length cap)).heap.size := by have := hb2.size; simpa using this
      have HT := Lib.hid (take_any K w.heap.size s N _ u4 rest (tailB N 8) _ hK3 hg hrow3 hown3 hrd3 (fun g hg _ => by have := (own_lt HO.out hg).1; omega) (by omega) (by rw [bv_length, bv_length, tailB_length]; omega))
      have hout : (w2.setCell ⟨w.heap.size, 9, none⟩ (.slice ao (bv rest).length cap)).heap[w.heap.size + 1]? = some (.cells key0 23 (0, 0)) := by
        rw [Below.heap_setCell _ _ _ _ (by simp), hb2.block _ (by omega), HB.out.block _ (by omega)]
        exact heap_alloc2_new w _ _
      have hao : ∀ g, (Value.slice ao (bv rest).length cap).ownBlock = some g → wo.heap.size ≤ g := fun g hg => (own_lt ho2 hg).1
      have HOut := Lib.hid hout
      have HAo := Lib.hid hao
      have HB3 := Lib.hid hb3
      clear hown3 hrow3 hrd3 hK3 hsha2 hout hao hb3
      go_wp2_with fail
      refine (HT.out).mono ?_
      rintro e w4 ⟨rfl, vr', hrow4, hown4, hf4⟩
      have HR4 := Lib.hid hrow4
      have HF4 := Lib.hid hf4
      clear hrow4 hown4 hf4
      obtain ⟨st, hst⟩ : ∃ st, st = absorb K ((rest ++ tailB N 8).length / 64) s (rest ++ tailB N 8) := ⟨_, rfl⟩
      rw [← hst] at HR4
      obtain ⟨g0, g1, g2, g3, g4, g5, g6, g7⟩ := state_cells HR4.out shaCells_low (by omega) (Below.refl (w.heap.size + 1) w4) (by omega)
      have hout4 : w4.heap[w.heap.size + 1]? = some (.cells (bv (keyPart st 0)).toArray 23 (0, 0)) :=
        (HF4.out.block _ (by have := heap_lt HOut.out; exact this) (fun hh => by rcases hh with hh | hh; omega; have := HAo.out _ hh; omega)).trans HOut.out
      have HO4 := Lib.hid hout4
      have HB4 := Lib.hid (show Below w.heap.size w w4 from HB3.out.trans (HF4.out.below (by have := HB3.out.size; exact this) (fun k hk => by rcases hk with hk | hk; omega; have := HAo.out _ hk; omega)))
      have HSt := Lib.hid hst
      clear hout4 hst hs3 f9 c9 HT
      clear f9 c9
      go_wp2_with fail
      go_loopw [40] (fun v wx => ∃ t : Nat, t ≤ 8 ∧ v = .int .i64 t ∧ wx.heap[w.heap.size + 1]? = some (.cells (bv (keyPart st t)).toArray 23 (0, 0)) ∧ Below w.heap.size w wx) (fun v _ => 8 - (intOf v).toNat)
      case atStart => exact ⟨0, by omega, rfl, HO4.out, HB4.out⟩
      case round =>
        obtain ⟨t, ht, rfl, hrow, hbx⟩ := hrel
        by_cases h8 : t < 8
        · have h8' : (t : Int) < 8 := by omega
          have i0 := run_index_cells (P := Tryd.prog) (len := 8) (t := 116) (e := 115) (k := .u32) Tryd.underlying116 Tryd.underlying115 (by kernel_rfl) (i := t) h8 (st_cells st t h8)
          have HR := Lib.hid hrow
          have HB := Lib.hid hbx
          clear hrow hbx
          have hsl := run_sliceAt_low (P := Tryd.prog) (t := 23) (n := 32) (e := 5) Tryd.underlying23 (by kernel_rfl) (w.heap.size + 1) (4 * t) (by omega) (4 * (t : Int)) (by omega)
          obtain ⟨w5, q1, q2, q3⟩ := copy_word w.heap.size (w.heap.size + 1) t st w wr h8 (by omega) HR.out HB.out
          have Q2 := Lib.hid q2
          have Q3 := Lib.hid q3
          clear q2 q3
          go_wp2_with fail
          go_roundw
          case rel => exact ⟨t + 1, by omega, by go_num, Q2.out, Q3.out⟩
          case measure => simp [intOf]; omega
        · obtain rfl : t = 8 := by omega
          have h8' : ¬ ((8 : Nat) : Int) < 8 := by omega
          have HR := Lib.hid hrow
          have HB := Lib.hid hbx
          have hsz8 : (Tryd.prog.info? 23).map (·.size) = some (bv (keyPart st 8)).toArray.size := by rw [List.size_toArray, bv_length, keyPart_length _ _ ht]; kernel_rfl
          have hss := store_self (P := Tryd.prog) hrow (bv_one _)
          clear hrow hbx
          go_wp2_with (refine wpList_load_row rfl 23 _ rfl (w.heap.size + 1) rfl 23 (bv (keyPart st 8)).toArray (0, 0) _ HR.out Tryd.underlying23 rfl hsz8 ?_)
          refine bodyPost_ret (results_cell_row rfl _ _ (w.heap.size + 1) 23 (bv (keyPart st 8)).toArray (0, 0) _ rfl HR.out Tryd.underlying23 rfl hsz8) rfl ?_
          rw [keyPart_end, HSt.out]
          exact ⟨by rw [finKey, List.length_append], HB.out⟩
end Go.Proofs.YtanodhagpegbfaaDoor
/- Arrays of integers: '==' of two of them; a field of a struct's value. Of whatever program. -/
namespace Go.Proofs.YtanodhagpegbfaaDoor
open Go Go.RowKit
theorem all_range_ints : ∀ (xs ys : List Int), xs.length = ys.length → ((List.range xs.length).all fun i => xs.getD i 0 == ys.getD i 0) = (xs == ys)
  | [], [], _ => rfl
  | x :: xs, y :: ys, h => by
    have ih := all_range_ints xs ys (by simpa using h)
    rw [List.length_cons, List.range_succ_eq_map, List.all_cons, List.all_map]
    simp only [List.getD_cons_zero, Function.comp_def, List.getD_cons_succ, ih]
    simp [List.cons_beq_cons]
  | [], _ :: _, h => by simp at h
  | _ :: _, [], h => by simp at h
theorem run_equalIn_ints {P : Program} (w : World) (D d : Nat) (hD : D = d + 2) (t e n : Nat) (k : IntKind) (ht : P.underlying t = some (.array n e)) (he : P.underlying e = some (.int k)) (hs : (P.info? e).map (·.size) = some 1)
    (xs ys : List Int) (hx : xs.length = n) (hy : ys.length = n) :
    (Op.equalIn D t (.agg (xs.map (.int k)).toArray) (.agg (ys.map (.int k)).toArray)).run P w = .ok (xs == ys) w := by
  subst hD
  obtain ⟨i0, hi0, hz⟩ := Option.map_eq_some_iff.1 hs
  have hc : P.cellsOf e = 1 := by simp [Program.cellsOf, hi0, hz]
  have hsz : ∀ w, (sizeOf e).run P w = .ok 1 w := fun w => by rw [run_sizeOf w hi0, hc]
  rw [← all_range_ints xs ys (hx.trans hy.symm), hx, List.range_eq_range', Op.equalIn]
  simp only [Sem.run_bind, run_underlying ht, Result.andThen_ok, hsz, Std.Legacy.Range.forIn_eq_forIn_range', Std.Legacy.Range.size, Nat.sub_zero, Nat.add_sub_cancel, Nat.div_one]
  have hl : ∀ i ∈ List.range' 0 n 1, i < n := fun i hi => by simpa using (List.mem_range'_1.1 hi).2
  generalize List.range' 0 n 1 = l at hl ⊢
  induction l with
  | nil => simp
  | cons i l ih =>
    have hi : i < n := hl i (by simp)
    have px : (part e (xs.map (.int k)).toArray (i * 1)).run P w = .ok (.int k (xs.getD i 0)) w := by
      simp [part, isAgg, run_underlying he, List.getD, List.getElem?_eq_getElem (show i < xs.length by omega)]
    have py : (part e (ys.map (.int k)).toArray (i * 1)).run P w = .ok (.int k (ys.getD i 0)) w := by
      simp [part, isAgg, run_underlying he, List.getD, List.getElem?_eq_getElem (show i < ys.length by omega)]
    have pe : (Op.equalIn (d + 1) e (.int k (xs.getD i 0)) (.int k (ys.getD i 0))).run P w = .ok (xs.getD i 0 == ys.getD i 0) w := run_equalIn_int w d e k k _ _ he
    simp only [List.forIn_cons, Sem.run_bind, px, py, pe, Result.andThen_ok, List.all_cons]
    cases hb : (xs.getD i 0 == ys.getD i 0)
    · simp
    · simp only [Bool.not_true, Bool.false_eq_true, if_false, Sem.run_pure, Result.andThen_ok, Bool.true_and]
      exact ih fun j hj => hl j (by simp [hj])
theorem wn_inj {x y : BitVec 32} (h : wn x = wn y) : x = y := by
  unfold wn at h
  exact BitVec.eq_of_toNat_eq (by omega)
theorem bn_inj {x y : BitVec 8} (h : bn x = bn y) : x = y := by
  unfold bn at h
  exact BitVec.eq_of_toNat_eq (by omega)
end Go.Proofs.YtanodhagpegbfaaDoor
namespace Go.Proofs.YtanodhagpegbfaaDoor
open Go Go.RowKit
deriving instance DecidableEq for St
/-- The words at first. -/
def iv : St := ⟨1779033703, 3144134277, 1013904242, 2773480762, 1359893119, 2600822924, 528734635, 1541459225⟩
theorem new_any (w : World) : Calls Tryd.prog 89 #[] w fun e w' => e = .returned (.agg (shaArr iv 0 (.slice none 0 0))) ∧ Below w.heap.size w w' := by
  go_enter Tryd.func89, Tryd.ntmps89
  go_wp2_with fail
  go_returns
  exact ⟨rfl, (Below.refl _ _).alloc (Nat.le_refl _) _⟩
def St.words (s : St) : List Int := [wn s.a, wn s.b, wn s.c, wn s.d, wn s.e, wn s.f, wn s.g, wn s.h]
theorem St.words_inj {s t : St} (h : s.words = t.words) : s = t := by
  simp only [St.words, List.cons.injEq] at h
  obtain ⟨h1, h2, h3, h4, h5, h6, h7, h8, -⟩ := h
  cases s; cases t
  simp only [St.mk.injEq]
  exact ⟨wn_inj h1, wn_inj h2, wn_inj h3, wn_inj h4, wn_inj h5, wn_inj h6, wn_inj h7, wn_inj h8⟩
theorem St.words_beq (s t : St) : (s.words == t.words) = decide (s = t) := by
  by_cases hst : s = t
  · subst hst; simp
  · simp only [hst, decide_false, beq_eq_false_iff_ne]
    exact fun e => hst (St.words_inj e)
theorem St.words_agg (s : St) : Value.agg #[.int .u32 (wn s.a), .int .u32 (wn s.b), .int .u32 (wn s.c), .int .u32 (wn s.d), .int .u32 (wn s.e), .int .u32 (wn s.f), .int .u32 (wn s.g), .int .u32 (wn s.h)] = .agg (s.words.map (.int .u32)).toArray := rfl
theorem run_eq_st (s t : St) (b : Bool) (hb : b = decide (s = t)) (w : World) : (Op.equalIn 10000 116 (.agg #[.int .u32 (wn s.a), .int .u32 (wn s.b), .int .u32 (wn s.c), .int .u32 (wn s.d), .int .u32 (wn s.e), .int .u32 (wn s.f), .int .u32 (wn s.g), .int .u32 (wn s.h)])
    (.agg #[.int .u32 (wn t.a), .int .u32 (wn t.b), .int .u32 (wn t.c), .int .u32 (wn t.d), .int .u32 (wn t.e), .int .u32 (wn t.f), .int .u32 (wn t.g), .int .u32 (wn t.h)])).run Tryd.prog w = .ok b w := by
  have h := run_equalIn_ints (P := Tryd.prog) w 10000 9998 (by omega) 116 115 8 .u32 Tryd.underlying116 Tryd.underlying115 (by kernel_rfl) s.words t.words rfl rfl
  rw [s.words_agg, t.words_agg, h]
  rw [hb, St.words_beq]
theorem new_any' (w : World) : Calls Tryd.prog 89 #[] w fun e w' => e = .returned (.agg #[.int .u32 (wn iv.a), .int .u32 (wn iv.b), .int .u32 (wn iv.c), .int .u32 (wn iv.d), .int .u32 (wn iv.e), .int .u32 (wn iv.f), .int .u32 (wn iv.g), .int .u32 (wn iv.h), .int .u64 0, .slice none 0 0]) ∧ Below w.heap.size w w' := new_any w
end Go.Proofs.YtanodhagpegbfaaDoor
/- A sum in progress, of any bytes: what it is behind more bytes. Lists of byte slices. No program here. -/
namespace Go.Proofs.YtanodhagpegbfaaDoor
open Go Go.RowKit
/-- The state behind the whole blocks of d, and what is left. -/
def shaSt (K : Nat → BitVec 32) (s : St) (d : List (BitVec 8)) : St := absorb K (d.length / 64) s d
def restOf (d : List (BitVec 8)) : List (BitVec 8) := d.drop (64 * (d.length / 64))
theorem restOf_length (d : List (BitVec 8)) : (restOf d).length = d.length % 64 := by unfold restOf; rw [List.length_drop]; omega
theorem mixed_congr (K : Nat → BitVec 32) (s : St) {B B' : Nat → BitVec 8} (h : ∀ i, i < 64 → B i = B' i) : mixed K s B = mixed K s B' := by
  have e : blockWords B = blockWords B' := by
    unfold blockWords
    apply List.map_congr_left
    intro t ht
    have ht' : t < 16 := by simpa using ht
    rw [h _ (by omega), h _ (by omega), h _ (by omega), h _ (by omega)]
  unfold mixed
  rw [e]
theorem absorb_append (K : Nat → BitVec 32) : ∀ (n : Nat) (s : St) (l m : List (BitVec 8)), 64 * n ≤ l.length → absorb K n s (l ++ m) = absorb K n s l
  | 0, _, _, _, _ => rfl
  | n + 1, s, l, m, h => by
    show absorb K n (mixed K s fun i => (l ++ m).getD i 0) ((l ++ m).drop 64) = absorb K n (mixed K s fun i => l.getD i 0) (l.drop 64)
    rw [List.drop_append_of_le_length (by omega), absorb_append K n _ _ _ (by rw [List.length_drop]; omega)]
    rw [mixed_congr K s (B' := fun i => l.getD i 0) fun i hi => by simp only [List.getD_eq_getElem?_getD]; rw [List.getElem?_append_left (by omega)]]
theorem absorb_add (K : Nat → BitVec 32) : ∀ (m n : Nat) (s : St) (l : List (BitVec 8)), absorb K (m + n) s l = absorb K n (absorb K m s l) (l.drop (64 * m))
  | 0, n, s, l => by simp [absorb]
  | m + 1, n, s, l => by
    rw [show m + 1 + n = (m + n) + 1 by omega]
    show absorb K (m + n) (mixed K s fun i => l.getD i 0) (l.drop 64) = absorb K n (absorb K m (mixed K s fun i => l.getD i 0) (l.drop 64)) (l.drop (64 * (m + 1)))
    rw [absorb_add K m n, List.drop_drop, show 64 + 64 * m = 64 * (m + 1) by omega]
theorem sha_step (K : Nat → BitVec 32) (s : St) (d b : List (BitVec 8)) : absorb K ((restOf d ++ b).length / 64) (shaSt K s d) (restOf d ++ b) = shaSt K s (d ++ b) ∧ (restOf d ++ b).drop (64 * ((restOf d ++ b).length / 64)) = restOf (d ++ b) := by
  have hl := restOf_length d
  have e1 : (d ++ b).length / 64 = d.length / 64 + (restOf d ++ b).length / 64 := by rw [List.length_append, List.length_append, hl]; omega
  have e2 : (d ++ b).drop (64 * (d.length / 64)) = restOf d ++ b := by unfold restOf; rw [List.drop_append_of_le_length (by omega)]
  constructor
  · show _ = absorb K ((d ++ b).length / 64) s (d ++ b)
    rw [e1, absorb_add, e2, absorb_append K (d.length / 64) s d b (by omega)]
    rfl
  · show _ = (d ++ b).drop (64 * ((d ++ b).length / 64))
    rw [e1, Nat.mul_add, ← List.drop_drop, e2]
theorem shaSt_short (K : Nat → BitVec 32) (s : St) (d : List (BitVec 8)) (h : d.length < 64) : shaSt K s d = s ∧ restOf d = d := by
  have e : d.length / 64 = 0 := by omega
  unfold shaSt restOf
  rw [e]
  exact ⟨rfl, rfl⟩
/-- A slice of byte slices reads as a list of lists. -/
def RdAll (w : World) (v : Value) (ps : List (List (BitVec 8))) : Prop := ∃ vs, Rd w v vs ∧ vs.length = ps.length ∧ ∀ i v, vs[i]? = some v → Rd w v (bv (ps.getD i []))
theorem RdAll.fr {w w' : World} {v : Value} {ps : List (List (BitVec 8))} (h : RdAll w v ps) {S : Nat → Prop} (hf : Fr S w w') (hn : ∀ k, k < w.heap.size → ¬ S k) : RdAll w' v ps := by
  obtain ⟨vs, h1, h2, h3⟩ := h
  exact ⟨vs, h1.fr hf (fun g hg hx => hn g (h1.lt hg hx)), h2, fun i v hv => (h3 i v hv).fr hf (fun g hg hx => hn g ((h3 i v hv).lt hg hx))⟩
theorem RdAll.below {w w' : World} {v : Value} {ps : List (List (BitVec 8))} (h : RdAll w v ps) (hb : Below w.heap.size w w') : RdAll w' v ps := h.fr (Fr.of_below (S := fun _ => False) hb) (fun _ _ h => h)
theorem RdAll.shape {w : World} {v : Value} {ps : List (List (BitVec 8))} (h : RdAll w v ps) : ∃ ao cap, v = .slice ao ps.length cap ∧ ps.length ≤ 9223372036854775807 := by
  obtain ⟨vs, ⟨ao, cap, rfl, r1, r2, r3, r4⟩, h2, h3⟩ := h
  exact ⟨ao, cap, by rw [h2], by omega⟩
theorem RdAll.cell {w : World} {v : Value} {ps : List (List (BitVec 8))} (h : RdAll w v ps) {i : Nat} (hi : i < ps.length) : ∃ g o cap u, v = .slice (some ⟨g, o, none⟩) ps.length cap ∧ w.cell? ⟨g, o + i, none⟩ = some u ∧ Rd w u (bv (ps.getD i [])) := by
  obtain ⟨vs, h1, h2, h3⟩ := h
  obtain ⟨g, o, cap, rfl, r1, r2, r3, r4⟩ := h1.at (by omega)
  have hv : vs[i]? = some (vs[i]'(by omega)) := List.getElem?_eq_getElem (by omega)
  exact ⟨g, o, cap, _, by rw [h2], r4 i _ hv, h3 i _ hv⟩
theorem flatten_take_succ {α : Type} (ps : List (List α)) (i : Nat) (h : i < ps.length) : (ps.take (i + 1)).flatten = (ps.take i).flatten ++ ps.getD i [] := by
  rw [List.take_succ_eq_append_getElem h, List.flatten_append]
  simp [List.getD_eq_getElem?_getD, List.getElem?_eq_getElem h]
theorem flatten_take_le {α : Type} : ∀ (ps : List (List α)) (i : Nat), (ps.take i).flatten.length ≤ ps.flatten.length
  | [], i => by simp
  | p :: ps, 0 => by simp
  | p :: ps, i + 1 => by
    have := flatten_take_le ps i
    simp only [List.take_succ_cons, List.flatten_cons, List.length_append]
    omega
theorem getD_flatten_le {α : Type} (ps : List (List α)) (i : Nat) (h : i < ps.length) : (ps.take i).flatten.length + (ps.getD i []).length ≤ ps.flatten.length := by
  have h1 := flatten_take_le ps (i + 1)
  rw [flatten_take_succ ps i h, List.length_append] at h1
  exact h1
end Go.Proofs.YtanodhagpegbfaaDoor
namespace Go.Proofs.YtanodhagpegbfaaDoor
open Go Go.RowKit
/-- The sum at once. -/
def digest (K : Nat → BitVec 32) (d : List (BitVec 8)) : List (BitVec 8) := finKey K (shaSt K iv d) d.length (restOf d)
/-- A sum in progress, in a block of its own, behind the bytes d (those that it began with among them). -/
def shaInv (K : Nat → BitVec 32) (w0 : World) (bs : Nat) (s : St) (N : Nat) (d : List (BitVec 8)) (wr : World) : Prop :=
  ∃ vr, wr.rowIs bs 118 10 (shaCells (shaSt K s d) N vr) ∧ wr.ownsRow (bs + 1) 5 1 vr (bv (restOf d)).length (bv (restOf d)) ∧ Below w0.heap.size w0 wr
theorem shaInv.step {K : Nat → BitVec 32} {w0 : World} {bs : Nat} {s : St} {N : Nat} {d : List (BitVec 8)} {wr : World} (h : shaInv K w0 bs s N d wr) (hK : TabK K 2 w0) (hbs : w0.heap.size ≤ bs) {vb : Value} {b : List (BitVec 8)} (hb : Rd wr vb (bv b))
    (hvb : ∀ g, vb.ownBlock = some g → bv b ≠ [] → g < w0.heap.size) (hN : N ≤ 1152921504606846976) (hlen : b.length ≤ 70368744177664) :
    Calls Tryd.prog 90 #[.pointer (some ⟨bs, 0, none⟩), vb] wr fun e w' => e = .returned (.tuple #[]) ∧ shaInv K w0 bs s (N + b.length) (d ++ b) w' := by
  obtain ⟨vr, h1, h2, h3⟩ := h
  have hr := restOf_length d
  obtain ⟨e1, e2⟩ := sha_step K s d b
  have hg : 2 < w0.heap.size := by obtain ⟨_, cs, fr, h1, _⟩ := hK; exact heap_lt h1
  refine (take_any K bs (shaSt K s d) N vr vb (restOf d) b wr (TabK_fr hK (Fr.of_below (S := fun _ => False) h3) (fun h => h)) (by omega) h1 h2 hb (fun g hg hx => by have := hvb g hg hx; omega) hN (by rw [bv_length, bv_length]; omega)).mono ?_
  rintro e w' ⟨rfl, vr', k1, k2, k3⟩
  rw [e1] at k1
  rw [e2] at k2
  exact ⟨rfl, vr', k1, ownsRow_mono k2 (by have := h1.lt; omega), h3.trans (k3.below h3.size (fun k hk => by rcases hk with hk | hk; omega; have := (own_lt h2 hk).1; omega))⟩
theorem shaInv.below {K : Nat → BitVec 32} {w0 : World} {bs : Nat} {s : St} {N : Nat} {d : List (BitVec 8)} {wr : World} (h : shaInv K w0 bs s N d wr) : Below w0.heap.size w0 wr := by
  obtain ⟨_, _, _, h⟩ := h; exact h
theorem shaInv.start (K : Nat → BitVec 32) (s : St) (w : World) : shaInv K w w.heap.size s 0 [] (w.alloc (.cells #[.int .u32 (wn s.a), .int .u32 (wn s.b), .int .u32 (wn s.c), .int .u32 (wn s.d), .int .u32 (wn s.e), .int .u32 (wn s.f), .int .u32 (wn s.g), .int .u32 (wn s.h), .int .u64 0, .slice none 0 0] 118)) :=
  ⟨.slice none 0 0, by rw [(shaSt_short K s [] (by simp)).1]; exact shaRow s 0 (.slice none 0 0) w, World.ownsRow_nil _ _ _ _, (Below.refl _ _).alloc (Nat.le_refl _) _⟩
theorem RdAll.elem_lt {w wr : World} {ao : Option Addr} {n cap : Nat} {ps : List (List (BitVec 8))} (h : RdAll w (.slice ao n cap) ps) (hb : Below w.heap.size w wr) {i g o : Nat} (hi : i < ps.length) {u : Value} (hao : ao = some ⟨g, o, none⟩) (hc : wr.cell? ⟨g, o + i, none⟩ = some u) :
    ∀ g, u.ownBlock = some g → bv (ps.getD i []) ≠ [] → g < w.heap.size := by
  obtain ⟨g', o', cap', u', hv, hc', hu'⟩ := h.cell hi
  subst hao
  cases hv
  have := hb.cell (p := ⟨g, o + i, none⟩) (World.block_lt_of_cell? w _ hc')
  rw [hc, hc'] at this
  cases this
  exact fun g hg hx => hu'.lt hg hx
theorem keyBytes_length (s : St) : (keyBytes s).length = 32 := keyPart_low s 8
theorem digest_length (K : Nat → BitVec 32) (d : List (BitVec 8)) : (digest K d).length = 32 := keyBytes_length _
theorem store_key {w : World} {b : Nat} (l : List (BitVec 8)) {n : Nat} (hl : l.length = n) {cur : Array Value} (hg : w.heap[b]? = some (.cells cur 23 (0, 0))) (hc : cur.size = n := by rfl) :
    ∃ w', (storeCells ⟨b, 0, none⟩ (bv l)).run Tryd.prog w = .ok () w' ∧ w'.heap[b]? = some (.cells (bv l).toArray 23 (0, 0)) ∧ ∀ k w0, k ≤ b → Below k w0 w → Below k w0 w' := by
  have h := run_storeCells_at Tryd.prog b 0 _ (bv l) 0 cur w hg (by rw [bv_length]; omega) (bv_one l)
  have e : (cur.toList.take (0 + 0) ++ bv l ++ cur.toList.drop (0 + 0 + (bv l).length)).toArray = (bv l).toArray := by
    rw [List.drop_of_length_le (by rw [bv_length, Array.length_toList]; omega)]; simp
  rw [e] at h
  exact ⟨_, h, setRow_heap _ _ _ _ _ _ hg, fun k w0 hk hb => below_setRow hb hk _⟩
set_option maxRecDepth 100000 in
set_option maxHeartbeats 1000000 in
theorem sum_any (K : Nat → BitVec 32) (vp : Value) (ps : List (List (BitVec 8))) (w : World) (hK : TabK K 2 w) (hp : RdAll w vp ps) (hlen : ps.flatten.length ≤ 1099511627776) :
    Calls Tryd.prog 70 #[vp] w fun e w' => e = .returned (.agg (bv (digest K ps.flatten)).toArray) ∧ Below w.heap.size w w' := by
  have HK := Lib.hid hK
  have HP := Lib.hid hp
  obtain ⟨ao, cap, rfl, hcap⟩ := hp.shape
  clear hK hp
  go_enter Tryd.func70, Tryd.ntmps70
  go_wp2_with fail
  refine (new_any' _).mono ?_
  rintro e w1 ⟨rfl, hb1⟩
  go_wp2_with fail
  have hb1' : Below w.heap.size w w1 := ((Below.refl _ _).alloc (Nat.le_refl _) _).trans (hb1.mono (by rw [World.size_alloc]; omega))
  have hout1 : w1.heap[w.heap.size]? = some (.cells key0 23 (0, 0)) := (hb1.block w.heap.size (by rw [World.size_alloc]; omega)).trans (heap_alloc_new w _)
  have HO1 := Lib.hid hout1
  have HB1 := Lib.hid hb1'
  have HK1 := Lib.hid (TabK_fr HK.out (Fr.of_below (S := fun _ => False) hb1') (fun h => h))
  have HP1 := Lib.hid (HP.out.below hb1')
  have hlt1 : w.heap.size < w1.heap.size := heap_lt hout1
  clear hb1 hb1' hout1
  have HI := Lib.hid (shaInv.start K iv w1)
  go_loopw [9] (fun v wr => ∃ i : Nat, i ≤ ps.length ∧ v = .int .i64 i ∧ shaInv K w1 w1.heap.size iv (ps.take i).flatten.length (ps.take i).flatten wr) (fun v _ => ps.length - (intOf v).toNat)
  case atStart => exact ⟨0, by omega, rfl, HI.out⟩
  case round =>
    obtain ⟨i, hi, rfl, hv⟩ := hrel
    have hfl := flatten_take_le ps i
    have hbw := hv.below
    by_cases hlt : i < ps.length
    · obtain ⟨g, o, cap', u, hvv, hc, hu⟩ := (HP1.out.below hbw).cell hlt
      cases hvv
      have hfl2 := getD_flatten_le ps i hlt
      have hu1 : ∀ g, u.ownBlock = some g → bv (ps.getD i []) ≠ [] → g < w1.heap.size := HP1.out.elem_lt hbw hlt rfl hc
      have HT := Lib.hid (hv.step HK1.out (Nat.le_refl _) hu hu1 (by omega) (by omega))
      have HV := Lib.hid hv
      clear hv hu hu1
      have hlt' : (i : Int) < (ps.length : Nat) := by omega
      go_wp2_with fail
      refine HT.out.mono ?_
      rintro e w2 ⟨rfl, hi2⟩
      have HI2 := Lib.hid hi2
      clear hi2
      go_wp2_with fail
      go_roundw
      case rel => exact ⟨i + 1, by omega, by go_num, by rw [flatten_take_succ ps i hlt, List.length_append]; exact HI2.out⟩
      case measure => simp [intOf]; omega
    · obtain rfl : i = ps.length := by omega
      have hlt' : ¬ ((ps.length : Nat) : Int) < (ps.length : Nat) := by omega
      rw [List.take_length] at hv
      obtain ⟨d, hd⟩ : ∃ d, d = ps.flatten := ⟨_, rfl⟩
      rw [← hd] at hv hlen
      have HD := Lib.hid hd
      clear hd hfl
      obtain ⟨vr, h1, h2, h3⟩ := hv
      have HF0 := finish_any K (shaSt K iv d) d.length vr (restOf d) wr (TabK_fr HK1.out (Fr.of_below (S := fun _ => False) h3) (fun h => h)) (Rd.of_own h2) (by omega) (by have := restOf_length d; omega)
      have HG : Hid (finKey K (shaSt K iv d) d.length (restOf d) = digest K d) := rfl
      clear h2
      generalize shaSt K iv d = st at h1 HF0 HG
      generalize restOf d = rs at HF0 HG
      generalize d.length = N at h1 HF0 HG hlen
      obtain ⟨g0, g1, g2, g3, g4, g5, g6, g7⟩ := state_cells h1 shaCells_low (by omega) (Below.refl (w1.heap.size + 1) wr) (by omega)
      have g8 := h1.cell (i := 8) (by omega)
      rw [shaCells_8] at g8
      have g9 := h1.cell (i := 9) (by omega)
      rw [shaCells_9] at g9
      rw [HG.out] at HF0
      generalize hx : digest K d = X at HF0
      have hxl : X.length = 32 := by rw [← hx]; exact digest_length K d
      have HF := Lib.hid HF0
      have HX := Lib.hid hx
      clear HF0 HG hx
      have HO := Lib.hid ((h3.block _ hlt1).trans HO1.out)
      have HB := Lib.hid (HB1.out.trans (h3.mono (by omega)))
      have hsz := h3.size
      clear h1 h3
      go_wp2_with fail
      refine HF.out.mono ?_
      rintro e w2 ⟨rfl, hb2⟩
      obtain ⟨w3, q1, q2, q3⟩ := store_key (w := w2) (b := w.heap.size) X hxl ((hb2.block _ (by omega)).trans HO.out)
      have HO3 := Lib.hid q2
      have HB3 := Lib.hid (q3 w.heap.size w (Nat.le_refl _) (HB.out.trans (hb2.mono (by omega))))
      have hsz8 : (Tryd.prog.info? 23).map (·.size) = some (bv X).toArray.size := by rw [List.size_toArray, bv_length, hxl]; kernel_rfl
      have hxb : (bv X).length = 32 := by rw [bv_length]; exact hxl
      clear q2 q3 hb2
      go_wp2_with fail
      refine bodyPost_ret (results_cell_row rfl _ _ w.heap.size 23 (bv X).toArray (0, 0) _ rfl HO3.out Tryd.underlying23 rfl hsz8) rfl ?_
      exact ⟨by rw [← HX.out, HD.out], HB3.out⟩
end Go.Proofs.YtanodhagpegbfaaDoor
namespace Go.Proofs.YtanodhagpegbfaaDoor
open Go Go.RowKit
theorem wpList_store_rowX {P : Program} {ops : Array Oper} {rest : List Oper} {o : Oper} {a : Act} {w : World} {Q : Exit → Act → World → Prop} (hgd : o.guard = none) (ty : TypeId) (x y : Operand) (ho : o.op = .store ty x y)
    (g : Nat) (cells : Array Value) (hx : a.eval x = .pointer (some ⟨g, 0, none⟩)) (hy : a.eval y = .agg cells)
    (t : TypeId) (old : Array Value) (hg : w.heap[g]? = some (.cells old t (0, 0))) (hi : (P.info? ty).map (·.size) = some cells.size)
    (hold : old.size = cells.size) (h1 : cells.all (·.oneCell') = true)
    (h : ∀ w', Hid (w'.heap[g]? = some (.cells cells t (0, 0))) → (∀ k w0, k ≤ g → Below k w0 w → Below k w0 w') → wpList P ops Q rest (a.put o.dst undef) w') : wpList P ops Q (o :: rest) a w :=
  wpList_store_row hgd ty x y ho g cells hx hy t old hg hi hold h1 (h _ (show _ = _ from setRow_heap _ _ _ _ _ _ hg) fun _ _ hk hb => below_setRow hb hk _)
theorem wpList_store_key0 {ops : Array Oper} {rest : List Oper} {o : Oper} {a : Act} {w : World} {Q : Exit → Act → World → Prop} (hgd : o.guard = none) (x y : Operand) (ho : o.op = .store 23 x y)
    (g : Nat) (hx : a.eval x = .pointer (some ⟨g, 0, none⟩)) (hy : a.eval y = .agg key0)
    (hg : w.heap[g]? = some (.cells key0 23 (0, 0)))
    (h : ∀ w', Hid (w'.heap[g]? = some (.cells key0 23 (0, 0))) → (∀ k w0, k ≤ g → Below k w0 w → Below k w0 w') → wpList Tryd.prog ops Q rest (a.put o.dst undef) w') : wpList Tryd.prog ops Q (o :: rest) a w :=
  wpList_store_rowX hgd _ x y ho g key0 hx hy _ key0 hg (by kernel_rfl) rfl (by kernel_rfl) h
theorem results_cell_tmp {P : Program} {fn : Func} {p q : Tmp} {ty : TypeId} (h : fn.results = #[.cell p ty, .tmp q]) (tmps : Array Value) (w : World) (g : Nat) (t : TypeId) (cs : Array Value) (fr : Nat × Nat) (d : TypeDesc)
    (hp : tmps.getD p undef = .pointer (some ⟨g, 0, none⟩)) (hg : w.heap[g]? = some (.cells cs t fr))
    (hu : P.underlying ty = some d) (hd : (match d with | .struct _ | .array _ _ => true | _ => false) = true) (hi : (P.info? ty).map (·.size) = some cs.size) :
    (results fn tmps).run P w = .ok (.tuple #[.agg cs, tmps.getD q undef]) w := by
  have hp' : tmps[p]?.getD undef = .pointer (some ⟨g, 0, none⟩) := by simpa using hp
  simp [results, h, hp', asAddr, run_loadVar_row w g t ty cs fr d hg hu hd hi]
end Go.Proofs.YtanodhagpegbfaaDoor
namespace Go.Proofs.YtanodhagpegbfaaDoor
open Go Go.RowKit
/-- A sum in progress, in a block bs, what is left of it at B or above; nothing else of what was there turns. -/
def shaInv2 (K : Nat → BitVec 32) (w0 : World) (bs B : Nat) (s : St) (N : Nat) (d : List (BitVec 8)) (wr : World) : Prop :=
  ∃ vr, wr.rowIs bs 118 10 (shaCells (shaSt K s d) N vr) ∧ wr.ownsRow B 5 1 vr (bv (restOf d)).length (bv (restOf d)) ∧ Fr (fun k => k = bs ∨ B ≤ k) w0 wr
theorem shaInv2.fr {K : Nat → BitVec 32} {w0 : World} {bs B : Nat} {s : St} {N : Nat} {d : List (BitVec 8)} {wr : World} (h : shaInv2 K w0 bs B s N d wr) : Fr (fun k => k = bs ∨ B ≤ k) w0 wr := by obtain ⟨_, _, _, h⟩ := h; exact h
theorem shaInv2.step {K : Nat → BitVec 32} {w0 : World} {bs B : Nat} {s : St} {N : Nat} {d : List (BitVec 8)} {wr : World} (h : shaInv2 K w0 bs B s N d wr) (hK : TabK K 2 w0) (hg : 2 < bs) (hbB : bs < B) (hB : B ≤ w0.heap.size) {vb : Value} {b : List (BitVec 8)} (hb : Rd wr vb (bv b))
    (hvb : ∀ g, vb.ownBlock = some g → bv b ≠ [] → g ≠ bs) (hN : N ≤ 1152921504606846976) (hlen : b.length ≤ 70368744177664) :
    Calls Tryd.prog 90 #[.pointer (some ⟨bs, 0, none⟩), vb] wr fun e w' => e = .returned (.tuple #[]) ∧ shaInv2 K w0 bs B s (N + b.length) (d ++ b) w' := by
  obtain ⟨vr, h1, h2, h3⟩ := h
  have hr := restOf_length d
  obtain ⟨e1, e2⟩ := sha_step K s d b
  refine (take_any K bs (shaSt K s d) N vr vb (restOf d) b wr (TabK_fr hK h3 (fun h => by omega)) hg h1 (ownsRow_mono h2 (by omega)) hb hvb hN (by rw [bv_length, bv_length]; omega)).mono ?_
  rintro e w' ⟨rfl, vr', k1, k2, k3⟩
  rw [e1] at k1
  rw [e2] at k2
  exact ⟨rfl, vr', k1, ownsRow_mono k2 (by have := h3.size; omega), h3.trans (k3.mono (fun k _ hk => by rcases hk with hk | hk; exact .inl hk; exact .inr (own_lt h2 hk).1))⟩
theorem wpList_store_sha {ops : Array Oper} {rest : List Oper} {o : Oper} {a : Act} {w : World} {Q : Exit → Act → World → Prop} (hgd : o.guard = none) (x y : Operand) (ho : o.op = .store 118 x y)
    (g : Nat) (cs : Array Value) (hx : a.eval x = .pointer (some ⟨g, 0, none⟩)) (hy : a.eval y = .agg cs) (hcs : cs.size = 10) (h1 : cs.all (·.oneCell') = true) (old : Array Value) (hold : old.size = 10)
    (hg : w.heap[g]? = some (.cells old 118 (0, 0)))
    (h : ∀ w', Hid (w'.heap[g]? = some (.cells cs 118 (0, 0))) → (∀ k w0, k ≤ g → Below k w0 w → Below k w0 w') → Hid (∀ k, k ≠ g → w'.heap[k]? = w.heap[k]?) → wpList Tryd.prog ops Q rest (a.put o.dst undef) w') : wpList Tryd.prog ops Q (o :: rest) a w :=
  wpList_store_row hgd _ x y ho g cs hx hy _ old hg (by rw [hcs]; kernel_rfl) (by rw [hold, hcs]) h1 (h _ (show _ = _ from setRow_heap _ _ _ _ _ _ hg) (fun _ _ hk hb => below_setRow hb hk _) (show _ from fun k hk => setRow_other w g k _ hk))
theorem shaInv2.start (K : Nat → BitVec 32) {w : World} {bs B : Nat} {s : St} {N : Nat} {d : List (BitVec 8)} {vr : Value} (hd : d.length < 64) (h1 : w.rowIs bs 118 10 (shaCells s N vr)) (h2 : w.ownsRow B 5 1 vr (bv d).length (bv d)) : shaInv2 K w bs B s N d w := by
  obtain ⟨e1, e2⟩ := shaSt_short K s d hd
  exact ⟨vr, by rw [e1]; exact h1, by rw [e2]; exact h2, Fr.refl _ _⟩
end Go.Proofs.YtanodhagpegbfaaDoor
namespace Go.Proofs.YtanodhagpegbfaaDoor
open Go Go.RowKit
/-- The bytes as a string. -/
def bstr (xs : List (BitVec 8)) : ByteArray := ⟨(xs.map UInt8.ofBitVec).toArray⟩
theorem bstr_toList (xs : List (BitVec 8)) : (bstr xs).toList = xs.map UInt8.ofBitVec := by rw [ByteArray.toList_eq]; rfl
theorem bstr_eq (xs ys : List (BitVec 8)) : ((bstr xs).toList == (bstr ys).toList) = decide (xs = ys) := by
  by_cases h : xs = ys
  · subst h; simp
  · simp only [h, decide_false, beq_eq_false_iff_ne]
    intro e
    rw [bstr_toList, bstr_toList] at e
    exact h (List.map_inj_right (fun x y e => by cases e; rfl) |>.1 e)
theorem push_bytes : ∀ (xs : List (BitVec 8)) (s : List UInt8), (xs.map bn).foldl (fun (r : ByteArray) n => r.push (UInt8.ofNat n.toNat)) ⟨s.toArray⟩ = ⟨(s ++ xs.map UInt8.ofBitVec).toArray⟩
  | [], s => by simp
  | x :: xs, s => by
    have e : (ByteArray.push ⟨s.toArray⟩ (UInt8.ofNat (bn x).toNat)) = ⟨(s ++ [UInt8.ofBitVec x]).toArray⟩ := by
      have : UInt8.ofNat (bn x).toNat = UInt8.ofBitVec x := by
        unfold bn
        apply UInt8.toNat_inj.1
        simp
      rw [this]
      simp [ByteArray.push]
    rw [List.map_cons, List.foldl_cons, e, push_bytes xs]
    simp
theorem run_str {P : Program} {src dst e : Nat} (hs : P.underlying src = some (.slice e)) (he : P.underlying e = some (.int .u8)) (hd : P.underlying dst = some .string) {w : World} {v : Value} {xs : List (BitVec 8)} (h : Rd w v (bv xs)) :
    (convert src dst v).run P w = .ok (.string (bstr xs)) w := by
  obtain ⟨ao, cap, rfl, h1, h2, h3, h4⟩ := h
  rw [run_convert_bytes_string w src dst e _ _ _ hs he hd]
  cases ao with
  | none =>
    have hc := h3 rfl
    have : xs = [] := List.eq_nil_of_length_eq_zero (by rw [bv_length] at h1; omega)
    subst this
    simp [Conv.bytesToString, bstr]
    rfl
  | some ad =>
    have hl := run_loadCells_list (P := P) w ad (bv xs) (h4 ad rfl)
    have hm : bv xs = (xs.map bn).map (Value.int .u8) := by simp [bv]
    rw [run_bytesToString w ad (bv xs).length cap (xs.map bn) (by rw [← hm]; exact hl)]
    have := push_bytes xs []
    simp only [List.nil_append] at this
    rw [show (ByteArray.empty) = ⟨([] : List UInt8).toArray⟩ from rfl, this]
    rfl
set_option maxRecDepth 100000 in
theorem same_any (va vb : Value) (xs ys : List (BitVec 8)) (w : World) (ha : Rd w va (bv xs)) (hb : Rd w vb (bv ys)) :
    Calls Tryd.prog 23 #[va, vb] w fun e w' => e = .returned (.bool (decide (xs = ys))) ∧ w' = w := by
  have h1 := run_str (P := Tryd.prog) (dst := 9) Tryd.underlying24 Tryd.underlying5 Tryd.underlying9 ha
  have h2 := run_str (P := Tryd.prog) (dst := 9) Tryd.underlying24 Tryd.underlying5 Tryd.underlying9 hb
  have h3 := bstr_eq xs ys
  clear ha hb
  go_enter Tryd.func23, Tryd.ntmps23
  go_wp2_with fail
  go_ret
  exact ⟨rfl, rfl⟩
end Go.Proofs.YtanodhagpegbfaaDoor

