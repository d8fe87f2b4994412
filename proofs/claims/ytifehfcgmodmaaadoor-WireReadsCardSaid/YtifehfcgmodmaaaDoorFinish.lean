import Derived.Test.YtifehfcgmodmaaaDoorTake
import Derived.Laws.CopyOwn
namespace Go.Proofs.YtifehfcgmodmaaaDoor
open Go Go.RowKit
theorem run_sliceAt_low {P : Program} {t n e : Nat} (ht : P.underlying t = some (.array n e)) (hs : (P.info? e).map (·.size) = some 1) (b l : Nat) (hl : l < n) (x : Int) (hx : x = (l : Int)) (w : World) :
    (Instr.sliceAt t (.pointer (some ⟨b, 0, none⟩)) (some (.int .i64 x)) none none).run P w = .ok (.slice (some ⟨b, l, none⟩) (n - l) (n - l)) w := by
  subst hx
  obtain ⟨i0, hi0, hz⟩ := Option.map_eq_some_iff.1 hs
  have hn : P.arrayLen t = n := by simp [Program.arrayLen, ht]
  have he : P.elem t = e := by simp [Program.elem, ht]
  have ht' : P.underlying t = some (.array (P.arrayLen t) (P.elem t)) := by rw [hn, he]; exact ht
  rw [run_sliceAt_array_l w t _ ht' .i64 (l : Int) (by omega) (by rw [hn]; omega), he, hn]
  have : ¬ n = l := by omega
  have hc : P.cellsOf e = 1 := by simp [Program.cellsOf, hi0, hz]
  simp [run_sizeOf w hi0, slicedAt, hc, this, Addr.add]
  intro h0; exact h0.symm
/-- The end that a sum's bytes get: a bit, zeros, and how many bits there are. -/
def beByte (m : Nat) (t : Nat) : BitVec 8 := BitVec.ofNat 8 (m >>> (8 * (7 - t)))
def tailB (N j : Nat) : List (BitVec 8) := 128 :: (List.replicate (63 - (N + 8) % 64) 0 ++ (List.range j).map (beByte (N * 8)))
theorem tailB_succ (N j : Nat) : tailB N (j + 1) = tailB N j ++ [beByte (N * 8) j] := by simp [tailB, List.range_succ]
theorem tailB_length (N j : Nat) : (tailB N j).length = 64 - (N + 8) % 64 + j := by simp [tailB]; omega
def key0 : Array Value := #[.int .u8 0, .int .u8 0, .int .u8 0, .int .u8 0, .int .u8 0, .int .u8 0, .int .u8 0, .int .u8 0, .int .u8 0, .int .u8 0, .int .u8 0, .int .u8 0, .int .u8 0, .int .u8 0, .int .u8 0, .int .u8 0, .int .u8 0, .int .u8 0, .int .u8 0, .int .u8 0, .int .u8 0, .int .u8 0, .int .u8 0, .int .u8 0, .int .u8 0, .int .u8 0, .int .u8 0, .int .u8 0, .int .u8 0, .int .u8 0, .int .u8 0, .int .u8 0]
def finW (s : St) (N : Nat) (vr : Value) (w : World) : World := (w.alloc (.cells #[.int .u32 (wn s.a), .int .u32 (wn s.b), .int .u32 (wn s.c), .int .u32 (wn s.d), .int .u32 (wn s.e), .int .u32 (wn s.f), .int .u32 (wn s.g), .int .u32 (wn s.h), .int .u64 (N : Int), vr] 37)).alloc (.cells key0 28)
theorem finW_size (s : St) (N : Nat) (vr : Value) (w : World) : (finW s N vr w).heap.size = w.heap.size + 2 := by simp [finW, World.size_alloc]
theorem finW_below (s : St) (N : Nat) (vr : Value) (w : World) : Below w.heap.size w (finW s N vr w) := ((Below.refl _ _).alloc (Nat.le_refl _) _).alloc (by rw [World.size_alloc]; omega) _
def shaArr (s : St) (N : Nat) (vr : Value) : Array Value := #[.int .u32 (wn s.a), .int .u32 (wn s.b), .int .u32 (wn s.c), .int .u32 (wn s.d), .int .u32 (wn s.e), .int .u32 (wn s.f), .int .u32 (wn s.g), .int .u32 (wn s.h), .int .u64 (N : Int), vr]
theorem shaArr_at (s : St) (N : Nat) (vr : Value) (i : Nat) (hi : i < 10) : (shaArr s N vr)[i]? = some (shaCells s N vr i) := by
  have : i = 0 ∨ i = 1 ∨ i = 2 ∨ i = 3 ∨ i = 4 ∨ i = 5 ∨ i = 6 ∨ i = 7 ∨ i = 8 ∨ i = 9 := by omega
  rcases this with rfl | rfl | rfl | rfl | rfl | rfl | rfl | rfl | rfl | rfl <;> rfl
theorem shaRow (s : St) (N : Nat) (vr : Value) (w : World) : (w.alloc (.cells (shaArr s N vr) 37)).rowIs w.heap.size 37 10 (shaCells s N vr) :=
  World.rowIs_alloc w (shaArr s N vr) _ (shaCells s N vr) (fun i hi => shaArr_at s N vr i hi)
theorem finW_sha (s : St) (N : Nat) (vr : Value) (w : World) : (finW s N vr w).rowIs w.heap.size 37 10 (shaCells s N vr) :=
  (shaRow s N vr w).of_block (Below.heap_alloc _ _ _ (by rw [World.size_alloc]; omega))
/-- A word's bytes, the highest first; a state's. -/
def wbytes (x : BitVec 32) : List (BitVec 8) := [(x >>> 24).setWidth 8, (x >>> 16).setWidth 8, (x >>> 8).setWidth 8, x.setWidth 8]
theorem wn_b0 (x : BitVec 32) : wn x % (256 : Int) = bn (x.setWidth 8) := by unfold wn bn; rw [BitVec.toNat_setWidth]; omega
def keyPart (s : St) (t : Nat) : List (BitVec 8) := (List.range t).flatMap (fun i => wbytes (s.at i)) ++ List.replicate (32 - 4 * t) 0
theorem keyPart_low (s : St) (t : Nat) : ((List.range t).flatMap (fun i => wbytes (s.at i))).length = 4 * t := by
  induction t with
  | zero => rfl
  | succ t ih => rw [List.range_succ, List.flatMap_append, List.length_append, ih]; simp [wbytes]; omega
theorem keyPart_length (s : St) (t : Nat) (h : t ≤ 8) : (keyPart s t).length = 32 := by
  unfold keyPart; rw [List.length_append, keyPart_low, List.length_replicate]; omega
theorem keyPart_step (s : St) (t : Nat) (h : t < 8) : (keyPart s t).take (4 * t) ++ (wbytes (s.at t) ++ (keyPart s t).drop (4 * t + 4)) = keyPart s (t + 1) := by
  have e := keyPart_low s t
  unfold keyPart
  rw [List.take_append_of_le_length (by omega), List.take_of_length_le (by omega), List.drop_append, List.drop_of_length_le (by omega), List.nil_append, e, List.drop_replicate, List.range_succ, List.flatMap_append]
  simp only [List.flatMap_cons, List.flatMap_nil, List.append_nil, List.append_assoc]
  rw [show 32 - 4 * t - (4 * t + 4 - 4 * t) = 32 - 4 * (t + 1) by omega]
def keyBytes (s : St) : List (BitVec 8) := (List.range 8).flatMap (fun i => wbytes (s.at i))
theorem keyPart_end (s : St) : keyPart s 8 = keyBytes s := by simp [keyPart, keyBytes]
/-- The sum of a state, behind N bytes, with so many left. -/
def finKey (K : Nat → BitVec 32) (s : St) (N : Nat) (rest : List (BitVec 8)) : List (BitVec 8) := keyBytes (absorb K ((rest ++ tailB N 8).length / 64) s (rest ++ tailB N 8))
def padRow : Array Value := madeCells #[.int .u8 0] 128
theorem padRow_size : padRow.size = 128 := size_madeCells _ _
theorem padRow_eq : padRow.toList = List.replicate 128 (.int .u8 0) := toList_madeCells_one _ 128
theorem padRow_0 : padRow[0]? = some (.int .u8 0) := by rw [← Array.getElem?_toList, padRow_eq]; rfl
theorem tail_start (N : Nat) (w : World) (b g : Nat) (hg : g = w.heap.size) (hb : b ≤ w.heap.size) : (w.alloc (.cells (padRow.setIfInBounds 0 (.int .u8 128)) 5)).ownsRow b 5 1 (.slice (some ⟨g, 0, none⟩) (64 - (N + 8) % 64) 128) (bv (tailB N 0)).length (bv (tailB N 0)) := by
  subst hg
  have e : bv (tailB N 0) = (List.replicate (64 - (N + 8) % 64) (.int .u8 0)).set 0 (.int .u8 128) := by
    obtain ⟨k, hk⟩ : ∃ k, 64 - (N + 8) % 64 = k + 1 := ⟨63 - (N + 8) % 64, by omega⟩
    rw [hk, List.replicate_succ, List.set_cons_zero]
    unfold tailB bv
    rw [show 63 - (N + 8) % 64 = k by omega]
    simp [bn]
  rw [bv_length, tailB_length, e]
  have hn : 64 - (N + 8) % 64 ≤ 128 := by omega
  generalize 64 - (N + 8) % 64 = n at hn ⊢
  refine ⟨by simp, .inr ⟨w.heap.size, 128, _, rfl, hb, heap_alloc_new w _, hn, by decide, by rw [Array.size_setIfInBounds]; exact padRow_size, ?_⟩⟩
  rw [Array.toList_setIfInBounds, padRow_eq, List.take_set, List.take_replicate, Nat.mul_one, Nat.add_zero, Nat.min_eq_left hn]
theorem be_num (N t : Nat) : (N : Int) * 8 / 2 ^ (8 * (7 - t)) % 256 = bn (beByte (N * 8) t) := by
  unfold bn beByte
  rw [BitVec.toNat_ofNat, Nat.shiftRight_eq_div_pow, Int.natCast_emod, Int.natCast_ediv, Int.natCast_mul]
  simp
theorem Rd.lit (w : World) (cs : Array Value) (t n : Nat) (hn : cs.size = n) (hm : n ≤ maxLen) : Rd (w.alloc (.cells cs t)) (.slice (some ⟨w.heap.size, 0, none⟩) n n) cs.toList :=
  Rd.of_own (World.ownsRow_lit (base := 0) w cs n (Nat.zero_le _) hm (by omega))
theorem copy_word (k b t : Nat) (st : St) (w wr : World) (h8 : t < 8) (hkb : k ≤ b) (hrow : wr.heap[b]? = some (.cells (bv (keyPart st t)).toArray 28 (0, 0))) (hB : Below k w wr) :
    ∃ w2, (Builtin.copy_ #[25, 25] 3 #[.slice (some ⟨b, 4 * t, none⟩) (32 - 4 * t) (32 - 4 * t), .slice (some ⟨wr.heap.size, 0, none⟩) 4 4]).run Tryd.prog
      (wr.alloc (.cells #[.int .u8 (bn (BitVec.setWidth 8 (st.at t >>> 24))), .int .u8 (bn (BitVec.setWidth 8 (st.at t >>> 16))), .int .u8 (bn (BitVec.setWidth 8 (st.at t >>> 8))), .int .u8 (bn (BitVec.setWidth 8 (st.at t)))] 5)) = .ok (.int .i64 4) w2 ∧
      w2.heap[b]? = some (.cells (bv (keyPart st (t + 1))).toArray 28 (0, 0)) ∧ Below k w w2 := by
  have hb := heap_lt hrow
  have hk := hB.size
  have h1 := (Below.heap_alloc wr (.cells (bv (wbytes (st.at t))).toArray 5) b hb).trans hrow
  have h2 := run_copy_row Tryd.prog (wr.alloc (.cells (bv (wbytes (st.at t))).toArray 5)) 25 25 3 5 b (4 * t) (32 - 4 * t) (32 - 4 * t) ⟨wr.heap.size, 0, none⟩ 4 4 _ _ (bv (wbytes (st.at t))) Tryd.underlying25 (by kernel_rfl) h1
    (by rw [bv_length]; show 4 = min 4 (32 - 4 * t); omega) (fun j v hv => (World.ownsRow.cells (World.ownsRow_lit (base := 0) (e := 5) (size := 1) wr (bv (wbytes (st.at t))).toArray 4 (Nat.zero_le _) (by decide) rfl) rfl j v hv))
    (by rw [bv_length, List.size_toArray, bv_length, keyPart_length _ _ (by omega)]; show 4 * t + 4 ≤ 32; omega) (bv_one _)
  refine ⟨_, h2, ?_, ?_⟩
  · rw [setRow_heap _ _ _ _ _ _ h1, ← keyPart_step st t h8, bv_append, bv_append, bv_take, bv_drop, List.append_assoc]
    rfl
  · refine below_setRow (hB.alloc (by
      obtain hlt := hb
      omega) _) hkb _
theorem wn_shr24 (x : BitVec 32) : wn x / (16777216 : Int) = wn (x >>> 24) := wn_shr x 24
theorem wn_shr16 (x : BitVec 32) : wn x / (65536 : Int) = wn (x >>> 16) := wn_shr x 16
theorem wn_shr8 (x : BitVec 32) : wn x / (256 : Int) = wn (x >>> 8) := wn_shr x 8
theorem store_self {P : Program} {w : World} {b t : Nat} {l : List Value} (hg : w.heap[b]? = some (.cells l.toArray t (0, 0))) (h1 : ∀ u ∈ l, u.oneCell' = true) : (storeCells ⟨b, 0, none⟩ l).run P w = .ok () w := by
  rw [run_storeCells_at P b 0 t l 0 l.toArray w hg (by simp) h1]
  simp [setRow_self w b _ t (0, 0) hg]
attribute [local go_sem] wn_shr24 wn_shr16 wn_shr8 wn_b0
set_option maxRecDepth 100000 in
set_option maxHeartbeats 1000000 in
theorem finish_any (K : Nat → BitVec 32) (s : St) (N : Nat) (vr : Value) (rest : List (BitVec 8)) (w : World) (hK : TabK K 1 w) (hrd : Rd w vr (bv rest)) (hN : N ≤ 1125899906842624) (hlen : rest.length ≤ 1099511627776) :
    Calls Tryd.prog 61 #[.agg #[.int .u32 (wn s.a), .int .u32 (wn s.b), .int .u32 (wn s.c), .int .u32 (wn s.d), .int .u32 (wn s.e), .int .u32 (wn s.f), .int .u32 (wn s.g), .int .u32 (wn s.h), .int .u64 (N : Int), vr]] w fun e w' => e = .returned (.agg (bv (finKey K s N rest)).toArray) ∧ Below w.heap.size w w' := by
  have HR := Lib.hid hrd
  have HK := Lib.hid hK
  clear hrd hK
  obtain ⟨i0, hi, hz1, hz2, hz3⟩ := info_parts info_byte
  have hmk : ∀ w, (Instr.makeSlice 25 (.int .i64 (64 - ((N : Int) + 8) % 64)) (.int .i64 128)).run Tryd.prog w = .ok (.slice (some ⟨w.heap.size, 0, none⟩) (64 - (N + 8) % 64) 128) (w.alloc (.cells padRow 5)) := fun w => by
    have := run_make (P := Tryd.prog) w 25 5 i0 (.int .u8 0) Tryd.underlying25 hi hz1 .i64 .i64 (64 - ((N : Int) + 8) % 64) 128 (by omega) (by omega) (by rw [hz3]; omega) (by omega)
    rw [this, hz2, show (64 - ((N : Int) + 8) % 64).toNat = 64 - (N + 8) % 64 by omega]
    rfl
  have p0 := padRow_0
  have ps := padRow_size
  clear hi hz1 hz2 hz3
  go_enter Tryd.func61, Tryd.ntmps61
  go_wp2_with fail
  go_loopw [4, 5] (fun v4 v5 wr => ∃ j : Nat, j ≤ 8 ∧ v5 = .int .i64 (7 - (j : Int)) ∧ wr.ownsRow (w.heap.size + 2) 5 1 v4 (bv (tailB N j)).length (bv (tailB N j)) ∧ Below (w.heap.size + 2) (finW s N vr w) wr) (fun _ v5 _ => (intOf v5 + 1).toNat)
  case atStart =>
    exact ⟨0, by omega, rfl, tail_start N (finW s N vr w) _ _ (finW_size s N vr w).symm (Nat.le_of_eq (finW_size s N vr w).symm), (Below.refl _ (finW s N vr w)).alloc (Nat.le_of_eq (finW_size s N vr w).symm) _⟩
  case round =>
    obtain ⟨j, hj, rfl, ho, hb⟩ := hrel
    by_cases h8 : j < 8
    · have h8' : (0 : Int) ≤ 7 - (j : Int) := by omega
      have HO := Lib.hid ho
      have HB := Lib.hid hb
      clear ho hb
      have hbe := be_num N j
      go_wp2_with ((at_builtin; refine wpList_append_rd rfl _ _ 25 rfl (w.heap.size + 2) 5 (.int .u8 0) 1 Tryd.underlying25 info_byte rfl u4 (.slice (some ⟨wr.heap.size, 0, none⟩) 1 1) (bv (tailB N j)) [.int .u8 (bn (beByte (N * 8) j))] rfl rfl (HO.out.alloc _) (Rd.lit wr #[.int .u8 (bn (beByte (N * 8) j))] 5 1 rfl (by decide)) (by simp [Value.oneCell']) (by rw [bv_length, tailB_length]; simp; omega) (by rw [bv_length, tailB_length]; simp; omega) (by have := HB.out.size; rw [finW_size] at this; rw [World.size_alloc]; omega) ?_; intro v1 w1 k1 k2 k3))
      go_roundw
      case rel =>
        have hsz : w.heap.size + 2 ≤ wr.heap.size := by have := HB.out.size; rwa [finW_size] at this
        have hk1 : w1.ownsRow (w.heap.size + 2) 5 1 v1 (bv (tailB N (j + 1))).length (bv (tailB N (j + 1))) := by rw [tailB_succ, bv_append]; exact k1
        exact ⟨j + 1, by omega, by go_num, hk1, (HB.out.alloc hsz _).grown k2 (by rw [World.size_alloc]; omega) (fun g hg => (own_lt HO.out hg).1)⟩
      case measure => simp [intOf]; omega
    · obtain rfl : j = 8 := by omega
      have hsha := (finW_sha s N vr w).of_block (hb.block w.heap.size (by omega))
      have c9 := World.rowIs.cell hsha (i := 9) (by omega)
      rw [shaCells_9] at c9
      have f9 := World.rowIs.frozen hsha 9
      have HO := Lib.hid ho
      have HB := Lib.hid hb
      have HS := Lib.hid hsha
      clear ho hb hsha
      obtain ⟨wo, rfl⟩ : ∃ wo : World, wo = wr := ⟨_, rfl⟩
      have hsz : w.heap.size + 2 ≤ wo.heap.size := by have := HB.out.size; rwa [finW_size] at this
      have HR1 := Lib.hid (HR.out.grow (((finW_below s N vr w).trans (HB.out.mono (by omega)))))
      go_wp2_with fail
      refine (clone_any _ _ _ HR1.out (bv_one _) (by rw [bv_length]; omega)).mono ?_
      rintro e w2 ⟨ao, cap, rfl, ho2, hb2⟩
      have hsha2 := HS.out.of_block (hb2.block w.heap.size (by omega))
      have c9 := World.rowIs.cell hsha2 (i := 9) (by omega)
      rw [shaCells_9] at c9
      have f9 := World.rowIs.frozen hsha2 9
      have hown3 : (w2.setCell ⟨w.heap.size, 9, none⟩ (.slice ao (bv rest).length cap)).ownsRow (w.heap.size + 1) 5 1 (.slice ao (bv rest).length cap) (bv rest).length (bv rest) :=
        ownsRow_setCell_other (a := ⟨w.heap.size, 9, none⟩) (ownsRow_mono ho2 (by omega)) (fun e => by have := (own_lt ho2 e).1; simp only at this; omega) _
      have hrow3 : (w2.setCell ⟨w.heap.size, 9, none⟩ (.slice ao (bv rest).length cap)).rowIs w.heap.size 37 10 (shaCells s N (.slice ao (bv rest).length cap)) :=
        (World.rowIs.set hsha2 9 _).congr (shaCells_set9 s N vr _)
      have hrd3 : Rd (w2.setCell ⟨w.heap.size, 9, none⟩ (.slice ao (bv rest).length cap)) u4 (bv (tailB N 8)) :=
        ((Rd.of_own HO.out).grow hb2).setCell (fun g hg _ => by have := (own_lt HO.out hg).1; simp only; omega) _
      have hb3 : Below w.heap.size w (w2.setCell ⟨w.heap.size, 9, none⟩ (.slice ao (bv rest).length cap)) :=
        (((finW_below s N vr w).trans (HB.out.mono (by omega))).trans (hb2.mono (by omega))).setCell (Nat.le_refl _) _
      have hK3 : TabK K 1 (w2.setCell ⟨w.heap.size, 9, none⟩ (.slice ao (bv rest).length cap)) := TabK_fr HK.out (Fr.of_below (S := fun _ => False) hb3) (fun h => h)
      have hg : 1 < w.heap.size := by obtain ⟨_, cs, fr, h1, _⟩ := HK.out; exact heap_lt h1
      have hs3 : wo.heap.size ≤ (w2.setCell ⟨w.heap.size, 9, none⟩ (.slice ao (bv rest).length cap)).heap.size := by have := hb2.size; simpa using this
      have HT := Lib.hid (take_any K w.heap.size s N _ u4 rest (tailB N 8) _ hK3 hg hrow3 hown3 hrd3 (fun g hg _ => by have := (own_lt HO.out hg).1; omega) (by omega) (by rw [bv_length, bv_length, tailB_length]; omega))
      have hout : (w2.setCell ⟨w.heap.size, 9, none⟩ (.slice ao (bv rest).length cap)).heap[w.heap.size + 1]? = some (.cells key0 28 (0, 0)) := by
        rw [Below.heap_setCell _ _ _ _ (by simp), hb2.block _ (by omega), HB.out.block _ (by omega)]
        exact heap_alloc2_new w _ _
      have hao : ∀ g, (Value.slice ao (bv rest).length cap).ownBlock = some g → wo.heap.size ≤ g := fun g hg => (own_lt ho2 hg).1
      have HOut := Lib.hid hout
      have HAo := Lib.hid hao
      have HB3 := Lib.hid hb3
      clear hown3 hrow3 hrd3 hK3 hsha2 hout hao hb3
      go_wp2_with fail
      refine (HT.out).mono ?_
      rintro e w4 ⟨rfl, vr', hrow4, hown4, hf4⟩
      have HR4 := Lib.hid hrow4
      have HF4 := Lib.hid hf4
      clear hrow4 hown4 hf4
      obtain ⟨st, hst⟩ : ∃ st, st = absorb K ((rest ++ tailB N 8).length / 64) s (rest ++ tailB N 8) := ⟨_, rfl⟩
      rw [← hst] at HR4
      obtain ⟨g0, g1, g2, g3, g4, g5, g6, g7⟩ := state_cells HR4.out shaCells_low (by omega) (Below.refl (w.heap.size + 1) w4) (by omega)
      have hout4 : w4.heap[w.heap.size + 1]? = some (.cells (bv (keyPart st 0)).toArray 28 (0, 0)) :=
        (HF4.out.block _ (by have := heap_lt HOut.out; exact this) (fun hh => by rcases hh with hh | hh; omega; have := HAo.out _ hh; omega)).trans HOut.out
      have HO4 := Lib.hid hout4
      have HB4 := Lib.hid (show Below w.heap.size w w4 from HB3.out.trans (HF4.out.below (by have := HB3.out.size; exact this) (fun k hk => by rcases hk with hk | hk; omega; have := HAo.out _ hk; omega)))
      have HSt := Lib.hid hst
      clear hout4 hst hs3 f9 c9 HT
      clear f9 c9
      go_wp2_with fail
      go_loopw [40] (fun v wx => ∃ t : Nat, t ≤ 8 ∧ v = .int .i64 t ∧ wx.heap[w.heap.size + 1]? = some (.cells (bv (keyPart st t)).toArray 28 (0, 0)) ∧ Below w.heap.size w wx) (fun v _ => 8 - (intOf v).toNat)
      case atStart => exact ⟨0, by omega, rfl, HO4.out, HB4.out⟩
      case round =>
        obtain ⟨t, ht, rfl, hrow, hbx⟩ := hrel
        by_cases h8 : t < 8
        · have h8' : (t : Int) < 8 := by omega
          have i0 := run_index_cells (P := Tryd.prog) (len := 8) (t := 34) (e := 33) (k := .u32) Tryd.underlying34 Tryd.underlying33 (by kernel_rfl) (i := t) h8 (st_cells st t h8)
          have HR := Lib.hid hrow
          have HB := Lib.hid hbx
          clear hrow hbx
          have hsl := run_sliceAt_low (P := Tryd.prog) (t := 28) (n := 32) (e := 5) Tryd.underlying28 (by kernel_rfl) (w.heap.size + 1) (4 * t) (by omega) (4 * (t : Int)) (by omega)
          obtain ⟨w5, q1, q2, q3⟩ := copy_word w.heap.size (w.heap.size + 1) t st w wr h8 (by omega) HR.out HB.out
          have Q2 := Lib.hid q2
          have Q3 := Lib.hid q3
          clear q2 q3
          go_wp2_with fail
          go_roundw
          case rel => exact ⟨t + 1, by omega, by go_num, Q2.out, Q3.out⟩
          case measure => simp [intOf]; omega
        · obtain rfl : t = 8 := by omega
          have h8' : ¬ ((8 : Nat) : Int) < 8 := by omega
          have HR := Lib.hid hrow
          have HB := Lib.hid hbx
          have hsz8 : (Tryd.prog.info? 28).map (·.size) = some (bv (keyPart st 8)).toArray.size := by rw [List.size_toArray, bv_length, keyPart_length _ _ ht]; kernel_rfl
          have hss := store_self (P := Tryd.prog) hrow (bv_one _)
          clear hrow hbx
          go_wp2_with (refine wpList_load_row rfl 28 _ rfl (w.heap.size + 1) rfl 28 (bv (keyPart st 8)).toArray (0, 0) _ HR.out Tryd.underlying28 rfl hsz8 ?_)
          refine bodyPost_ret (results_cell_row rfl _ _ (w.heap.size + 1) 28 (bv (keyPart st 8)).toArray (0, 0) _ rfl HR.out Tryd.underlying28 rfl hsz8) rfl ?_
          rw [keyPart_end, HSt.out]
          exact ⟨by rw [finKey, List.length_append], HB.out⟩
end Go.Proofs.YtifehfcgmodmaaaDoor
