/- bytes.Buffer at this program: the kit's contracts on Write and Bytes, and a write of no bytes. -/
import Derived.Test.YtifehfcgmodmaaaDoorRefBytes
import Derived.Shelf.Bytes.WriteAny
import Derived.Shelf.Bytes.Bytes
namespace Go.Proofs.YtifehfcgmodmaaaDoor
open Go Go.RowKit Go.Shelf
/-- The kit's numbers, as they are here. -/
def bufRen : Ren :=
  ⟨fun x => match x with
    | 180 => 76
    | 181 => 90
    | 183 => 77
    | 184 => 91
    | 251 => 85
    | 252 => 86
    | 290 => 92
    | 324 => 94
    | n => n,
  fun x => match x with
    | 0 => 0
    | 3 => 3
    | 4 => 4
    | 5 => 5
    | 9 => 9
    | 20 => 20
    | 37 => 25
    | 75 => 92
    | 80 => 115
    | 91 => 88
    | 93 => 90
    | 130 => 105
    | 131 => 106
    | n => n,
  fun x => match x with
    | 14 => 2
    | n => n⟩
theorem buf180 : LaysM.n180 Tryd.prog bufRen :=
  { mixed := by kernel_rfl, f180 := Tryd.func76, f181 := Tryd.func90, f184 := Tryd.func91, f251 := Tryd.func85, f252 := Tryd.func86, f290 := Tryd.func92, f324 := Tryd.func94,
    t0 := Tryd.underlying0, a0 := Tryd.isAgg0, z0 := Tryd.sizeOf0, v0 := Tryd.zeroValue0,
    t3 := Tryd.underlying3, a3 := Tryd.isAgg3, z3 := Tryd.sizeOf3, v3 := Tryd.zeroValue3,
    t4 := Tryd.underlying4, a4 := Tryd.isAgg4, z4 := Tryd.sizeOf4, v4 := Tryd.zeroValue4,
    t20 := Tryd.underlying20, a20 := Tryd.isAgg20, z20 := Tryd.sizeOf20, v20 := Tryd.zeroValue20,
    t37 := Tryd.underlying25, a37 := Tryd.isAgg25, z37 := Tryd.sizeOf25, v37 := Tryd.zeroValue25,
    t75 := Tryd.underlying92, a75 := Tryd.isAgg92, z75 := Tryd.sizeOf92, v75 := Tryd.zeroValue92,
    t91 := Tryd.underlying88, a91 := Tryd.isAgg88, z91 := Tryd.sizeOf88, v91 := Tryd.zeroValue88,
    t93 := Tryd.underlying90, a93 := Tryd.isAgg90, z93 := Tryd.sizeOf90, v93 := Tryd.zeroValue90,
    t130 := Tryd.underlying105, a130 := Tryd.isAgg105, z130 := Tryd.sizeOf105, v130 := Tryd.zeroValue105,
    t131 := Tryd.underlying106, a131 := Tryd.isAgg106, z131 := Tryd.sizeOf106, v131 := Tryd.zeroValue106,
    t5 := Tryd.underlying5, a5 := Tryd.isAgg5, z5 := Tryd.sizeOf5, v5 := Tryd.zeroValue5,
    t9 := Tryd.underlying9, a9 := Tryd.isAgg9, z9 := Tryd.sizeOf9, v9 := Tryd.zeroValue9,
    t80 := Tryd.underlying115, a80 := Tryd.isAgg115, z80 := Tryd.sizeOf115, v80 := Tryd.zeroValue115,
    g14 := by kernel_rfl, m14 := by kernel_rfl, i0 := by kernel_rfl, i3 := by kernel_rfl, i4 := by kernel_rfl, i5 := by kernel_rfl, i9 := by kernel_rfl, i20 := by kernel_rfl, i37 := by kernel_rfl, i75 := by kernel_rfl, i80 := by kernel_rfl, i91 := by kernel_rfl, i93 := by kernel_rfl, i130 := by kernel_rfl, i131 := by kernel_rfl }
theorem buf183 : LaysM.n183 Tryd.prog bufRen :=
  { mixed := by kernel_rfl, f183 := Tryd.func77,
    t0 := Tryd.underlying0, a0 := Tryd.isAgg0, z0 := Tryd.sizeOf0, v0 := Tryd.zeroValue0,
    t3 := Tryd.underlying3, a3 := Tryd.isAgg3, z3 := Tryd.sizeOf3, v3 := Tryd.zeroValue3,
    t37 := Tryd.underlying25, a37 := Tryd.isAgg25, z37 := Tryd.sizeOf25, v37 := Tryd.zeroValue25,
    t93 := Tryd.underlying90, a93 := Tryd.isAgg90, z93 := Tryd.sizeOf90, v93 := Tryd.zeroValue90,
    t130 := Tryd.underlying105, a130 := Tryd.isAgg105, z130 := Tryd.sizeOf105, v130 := Tryd.zeroValue105,
    t5 := Tryd.underlying5, a5 := Tryd.isAgg5, z5 := Tryd.sizeOf5, v5 := Tryd.zeroValue5,
    t91 := Tryd.underlying88, a91 := Tryd.isAgg88, z91 := Tryd.sizeOf88, v91 := Tryd.zeroValue88,
    i0 := by kernel_rfl, i3 := by kernel_rfl, i5 := by kernel_rfl, i37 := by kernel_rfl, i91 := by kernel_rfl, i93 := by kernel_rfl, i130 := by kernel_rfl }
/-- A buffer that this call has made, and what it holds. -/
def Buf (B b : Nat) (xs : List (BitVec 8)) (w : World) : Prop := Lib.IsBuffer 90 5 B b (bv xs) w
theorem Buf.fresh (w : World) : Buf w.heap.size w.heap.size [] (w.alloc (.cells #[.slice none 0 0, .int .i64 0, .int .i8 0] 90)) := Lib.fresh_isBuffer _ _ w
theorem Buf.old {B b : Nat} {xs : List (BitVec 8)} {w w' : World} (h : Buf B b xs w) (hb : Aft w w') : Buf B b xs w' := by
  have hl := Lib.IsBuffer.lt h
  obtain ⟨hB, v, lr, h1, h2, h3⟩ := h
  exact ⟨hB, v, lr, (Below.block hb b hl).trans h1, ownsRow_below h2 (fun g hg => Below.block hb g (own_lt h2 hg).2), h3⟩
theorem bufBytes_any (B b : Nat) (xs : List (BitVec 8)) (w : World) (h : Buf B b xs w) :
    Calls Tryd.prog 77 #[.pointer (some ⟨b, 0, none⟩)] w (RetSl (bv xs).length fun v w' => w'.ownsRow B 5 1 v (bv xs).length (bv xs) ∧ Aft w w') :=
  (Any.Buffer_Bytes buf183 B b (bv xs) w h).mono fun e w' ⟨v, he, ho, n, hw⟩ => by
    obtain ⟨a, c, rfl⟩ := own_shape ho
    exact ⟨a, c, he, ho, by rw [hw]; exact ⟨rfl, rfl, rfl, Nat.le_refl _, fun _ _ => rfl⟩⟩
set_option maxRecDepth 100000 in
set_option maxHeartbeats 1000000 in
theorem bufWrite_nil (B b cap : Nat) (ao : Option Addr) (xs : List (BitVec 8)) (w : World) (h : Buf B b xs w) :
    Calls Tryd.prog 76 #[.pointer (some ⟨b, 0, none⟩), .slice ao 0 cap] w fun e w' => e = .returned (.tuple #[.int .i64 0, .nilIface]) ∧ Buf B b xs w' ∧ Below B w w' := by
  have h0 : Lib.IsBuffer 90 5 B b (bv xs) w := h
  have hs := h0.setLast 0
  obtain ⟨hB, v0, lr, hbk, -, -⟩ := h0
  have c2 : w.cell? ⟨b, 2, none⟩ = some (.int .i8 lr) := by rw [Lib.cell_of_heap hbk]; rfl
  have f2 : w.frozen? ⟨b, 2, none⟩ = false := Lib.frozen_of_heap hbk 2
  have HF := Lib.hid (show Below B w (w.setCell ⟨b, 2, none⟩ (.int .i8 0)) from (Below.refl B w).setCell (p := ⟨b, 2, none⟩) hB _)
  have HT := Lib.hid (Any.Buffer_tryGrow_own { buf180 with } B b 0 (bv xs) _ hs)
  have hcp := fun (d : Option Addr) (n c : Nat) (W : World) => run_copy_none (P := Tryd.prog) (ty := 3) W 25 25 5 d ao n c 0 cap Tryd.underlying25 (by kernel_rfl) (Nat.zero_min n)
  clear hs hbk h
  go_enter Tryd.func76, Tryd.ntmps76
  go_wp2_with fail
  refine HT.out.mono ?_
  rintro e W1 (⟨rfl, ys, hyl, hI, hbel, -, -⟩ | ⟨rfl, rfl, hnr⟩)
  · obtain rfl : ys = [] := List.eq_nil_of_length_eq_zero hyl
    rw [List.append_nil] at hI
    have HI := Lib.hid hI
    have HB := Lib.hid (HF.out.trans hbel)
    obtain ⟨-, v1, lr1, hb1, ho1, -⟩ := hI
    obtain ⟨a1, c1, rfl⟩ := own_shape ho1
    have d0 : W1.cell? ⟨b, 0, none⟩ = some (.slice a1 (bv xs).length c1) := by rw [Lib.cell_of_heap hb1]; rfl
    have hsl := (Rd.of_own ho1).sl
    obtain ⟨iB, hiB, hz1, hz2, -⟩ := info_parts info_byte
    have hcut := fun (wx : World) => cut_from (P := Tryd.prog) (ao := a1) (len := (bv xs).length) (cap := c1) (n := (bv xs).length) Tryd.underlying25 (Nat.le_refl _) wx hiB hz2
    have hcut2 : ∀ wx, (Instr.slice 25 (.slice a1 (bv xs).length c1) (some (.int .i64 ((bv xs).length : Int))) none none).run Tryd.prog wx = .ok (.slice (if c1 = (bv xs).length then a1 else a1.map (·.add (bv xs).length)) ((bv xs).length - (bv xs).length) (c1 - (bv xs).length)) wx := fun wx => by
      rw [← run_sliceAt_slice wx 25 _ _ _ _ Tryd.underlying25]; exact hcut wx
    clear hb1 ho1 hbel hcut hsl hz1 hz2 hiB
    go_wp2_with fail
    all_goals
      go_ret2
      exact ⟨rfl, HI.out, HB.out⟩
  · obtain ⟨_, _, _, _, hlt⟩ := hnr
    omega
theorem bufWrite_any (B b : Nat) (vp : Value) (xs ys : List (BitVec 8)) (w : World) (h : Buf B b xs w) (hBw : B ≤ w.heap.size) (hrd : Rd w vp (bv ys)) (hne : ∀ g, vp.ownBlock = some g → bv ys ≠ [] → g ≠ b) (hlim : xs.length + ys.length ≤ 140737488355328) :
    Calls Tryd.prog 76 #[.pointer (some ⟨b, 0, none⟩), vp] w fun e w' => e = .returned (.tuple #[.int .i64 ys.length, .nilIface]) ∧ Buf B b (xs ++ ys) w' ∧ Below B w w' := by
  obtain ⟨ao, cap, rfl, h1, h2, h3, h4⟩ := hrd
  cases ys with
  | nil => rw [List.append_nil]; exact bufWrite_nil B b cap ao xs w h
  | cons y ys =>
    cases ao with
    | none =>
      have := h3 rfl
      rw [bv_length, List.length_cons] at h1
      omega
    | some a =>
      refine (Any.Buffer_Write_any buf180 B b (bv xs) (bv (y :: ys)) a (bv (y :: ys)).length cap w h hBw (bv_one xs) rfl (hne a.block rfl (by simp [bv])) (h4 a rfl) (bv_one _) (by rw [bv_length, bv_length]; exact hlim)).mono fun e w' hh => ?_
      obtain ⟨he, hi, hb, -⟩ := hh
      refine ⟨by rw [he, bv_length], ?_, hb⟩
      unfold Buf
      rw [bv_append]
      exact hi
end Go.Proofs.YtifehfcgmodmaaaDoor
