/- law03.live: the chapter's example. -/
import Derived.Test.YtifehfcgmodmaaaDoorMac
namespace Go.Proofs.YtifehfcgmodmaaaDoor
open Go Go.RowKit
def msgA : List (BitVec 8) := [84, 104, 101, 32, 113, 117, 105, 99, 107, 32, 98, 114, 111, 119, 110, 32, 102, 111, 120, 32]
def msgB : List (BitVec 8) := [106, 117, 109, 112, 115, 32, 111, 118, 101, 114, 32, 116, 104, 101, 32, 108, 97, 122, 121, 32, 100, 111, 103]
def msgK : List (BitVec 8) := [107, 101, 121]
set_option maxRecDepth 100000 in
theorem mac_live : (macOf K0 msgK (msgA ++ msgB)).take 4 = [0xf7, 0xbc, 0x83, 0xf4] := by decide +kernel
theorem take4_cells {X : List (BitVec 8)} {a b c e : BitVec 8} (h : X.take 4 = [a, b, c, e]) :
    (bv X).toArray[0]? = some (.int .u8 (bn a)) ∧ (bv X).toArray[1]? = some (.int .u8 (bn b)) ∧ (bv X).toArray[2]? = some (.int .u8 (bn c)) ∧ (bv X).toArray[3]? = some (.int .u8 (bn e)) := by
  match X, h with
  | x0 :: x1 :: x2 :: x3 :: xs, h =>
    simp only [List.take_succ_cons, List.take_zero, List.cons.injEq, and_true] at h
    obtain ⟨rfl, rfl, rfl, rfl⟩ := h
    exact ⟨rfl, rfl, rfl, rfl⟩
def live3W (w : World) : World := (((w.alloc (.cells (bv msgK).toArray 5 (3, 4))).alloc (.cells (bv msgA).toArray 5 (20, 21))).alloc (.cells (bv msgB).toArray 5 (23, 24))).alloc (.cells #[.slice (some ⟨w.heap.size + 1, 0, none⟩) 20 20, .slice (some ⟨w.heap.size + 2, 0, none⟩) 23 23] 25)
theorem live3_start (w : World) : Rd (live3W w) (.slice (some ⟨w.heap.size, 0, none⟩) 3 3) (bv msgK) ∧ RdAll (live3W w) (.slice (some ⟨w.heap.size + 1 + 1 + 1, 0, none⟩) 2 2) [msgA, msgB] ∧ Aft w (live3W w) := by
  have h1 := Rd.litF w (bv msgK) 5 (3, 4) (by decide)
  have h2 := Rd.litF (w.alloc (.cells (bv msgK).toArray 5 (3, 4))) (bv msgA) 5 (20, 21) (by decide)
  have h3 := Rd.litF ((w.alloc (.cells (bv msgK).toArray 5 (3, 4))).alloc (.cells (bv msgA).toArray 5 (20, 21))) (bv msgB) 5 (23, 24) (by decide)
  simp only [World.size_alloc, Nat.add_assoc, Nat.reduceAdd] at h2 h3
  have g4 : (live3W w).heap[w.heap.size + 1 + 1 + 1]? = some (.cells #[.slice (some ⟨w.heap.size + 1, 0, none⟩) 20 20, .slice (some ⟨w.heap.size + 2, 0, none⟩) 23 23] 25 (0, 0)) := by
    have := heap_alloc_new (((w.alloc (.cells (bv msgK).toArray 5 (3, 4))).alloc (.cells (bv msgA).toArray 5 (20, 21))).alloc (.cells (bv msgB).toArray 5 (23, 24))) (.cells #[.slice (some ⟨w.heap.size + 1, 0, none⟩) 20 20, .slice (some ⟨w.heap.size + 2, 0, none⟩) 23 23] 25)
    rw [World.size_alloc, World.size_alloc, World.size_alloc] at this
    exact this
  have a1 := Aft.alloc w (.cells (bv msgK).toArray 5 (3, 4))
  have a2 := Aft.alloc (w.alloc (.cells (bv msgK).toArray 5 (3, 4))) (.cells (bv msgA).toArray 5 (20, 21))
  have a3 := Aft.alloc ((w.alloc (.cells (bv msgK).toArray 5 (3, 4))).alloc (.cells (bv msgA).toArray 5 (20, 21))) (.cells (bv msgB).toArray 5 (23, 24))
  have a4 := Aft.alloc (((w.alloc (.cells (bv msgK).toArray 5 (3, 4))).alloc (.cells (bv msgA).toArray 5 (20, 21))).alloc (.cells (bv msgB).toArray 5 (23, 24))) (.cells #[.slice (some ⟨w.heap.size + 1, 0, none⟩) 20 20, .slice (some ⟨w.heap.size + 2, 0, none⟩) 23 23] 25)
  exact ⟨h1.grow (Aft.trans a2 (Aft.trans a3 a4)), RdAll.two g4 (h2.grow (Aft.trans a3 a4)) (h3.grow a4), Aft.trans a1 (Aft.trans a2 (Aft.trans a3 a4))⟩
set_option maxRecDepth 100000 in
set_option maxHeartbeats 1000000 in
theorem live3_any (w : World) (hK : TabK K0 1 w) : Calls Tryd.prog 25 #[] w fun e w' => e = .returned (.bool true) ∧ Below w.heap.size w w' := by
  have HK := Lib.hid hK
  clear hK
  have hcv := fun (w : World) (C : Array Value) (n c : Nat) => Lib.run_convert_bytes_const (P := Tryd.prog) w 25 5 C n c Tryd.underlying25 Tryd.underlying5
  have hcv2 := fun (w : World) (o : Obj) (C : Array Value) (n c : Nat) => hcv (w.alloc o) C n c
  have hcv3 := fun (w : World) (o1 o2 : Obj) (C : Array Value) (n c : Nat) => hcv ((w.alloc o1).alloc o2) C n c
  simp only [World.size_alloc, Nat.add_assoc, Nat.reduceAdd] at hcv2 hcv3
  go_enter Tryd.func25, Tryd.ntmps25
  go_wp2_with fail
  obtain ⟨s1, s2, s3⟩ := live3_start w
  refine (mac_any _ _ msgK [msgA, msgB] (live3W w) (TabK_fr HK.out (Fr.of_below (S := fun _ => False) s3) (fun h => h)) s1 s2 (by decide) (by decide) (by decide)).mono ?_
  rintro e w3 ⟨rfl, hb3⟩
  rw [show ([msgA, msgB] : List (List (BitVec 8))).flatten = msgA ++ msgB from rfl]
  have hc := take4_cells mac_live
  have hl := macOf_length K0 msgK (msgA ++ msgB)
  generalize macOf K0 msgK (msgA ++ msgB) = Y at hc hl ⊢
  have HL := Lib.hid hl
  have HC := Lib.hid hc
  have HB3 := Lib.hid (show Below w.heap.size w w3 from Aft.trans s3 hb3)
  have HS3 := Lib.hid (heap_alloc_new w3 (.cells key0 28))
  clear hc hl s1 s2 s3 hb3 hcv hcv2 hcv3
  go_wp2_with ((refine wpList_store_keyX rfl (.tmp 1) (.tmp 9) rfl w3.heap.size Y HL.out rfl rfl HS3.out ?_; intro w4 q2 q3; have h14 := row_cells q2.out HC.out; have HB4 := Lib.hid (q3 w.heap.size w HB3.out.size (HB3.out.alloc HB3.out.size _)); clear q3; obtain ⟨c0, c1, c2, c3⟩ := h14))
  go_ret
  exact ⟨rfl, HB4.out⟩
end Go.Proofs.YtifehfcgmodmaaaDoor
