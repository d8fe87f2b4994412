/- The walk of slices.Clone at bytes: what it hands back is the call's own, and reads as what came in. -/
import Derived.Test.YtifehfcgmodmaaaDoorRows
import Derived.Test.YtifehfcgmodmaaaDoorRd
import Derived.Test.YtifehfcgmodmaaaDoorLexT
import Derived.Lib.SliceRun
namespace Go.Proofs.YtifehfcgmodmaaaDoor
open Go Go.RowKit
theorem info_byte : (Tryd.prog.info? 5).map (fun i => (i.zero, i.size, i.bytes)) = some (some (.int .u8 0), 1, 1) := by kernel_rfl
set_option maxHeartbeats 400000 in
theorem clone_none (w : World) : Calls Tryd.prog 67 #[.slice none 0 0] w (Returns fun v' w' => w'.ownsRow w.heap.size 5 1 v' 0 [] ∧ Below w.heap.size w w') := by
  have heq := fun w => Lib.run_eql_slice_nil (P := Tryd.prog) w 25 5 none 0 0 0 0 Tryd.underlying25
  go_enter Tryd.func67, Tryd.ntmps67
  go_wp2
  go_ret
  exact Returns.mk ⟨World.ownsRow_nil _ _ _ _, Below.refl _ _⟩
set_option maxHeartbeats 400000 in
theorem clone_any0 (v : Value) (xs : List Value) (w : World) (hrd : Rd w v xs) (h1 : ∀ u ∈ xs, u.oneCell' = true) (hlen : xs.length ≤ 140737488355328) :
    Calls Tryd.prog 67 #[v] w (Returns fun v' w' => w'.ownsRow w.heap.size 5 1 v' xs.length xs ∧ Below w.heap.size w w') := by
  have hl := hrd
  obtain ⟨ao, cap, rfl, r1, r2, r3, r4⟩ := hl
  have HX := Lib.hid h1
  clear h1 r4 r3
  have heq := fun w => Lib.run_eql_slice_nil (P := Tryd.prog) w 25 5 ao xs.length cap 0 0 Tryd.underlying25
  cases ao with
  | none =>
    obtain ⟨rfl, rfl⟩ := hrd.none_zero
    exact clone_none w
  | some ad =>
    have HR := Lib.hid hrd
    clear hrd
    have HO := Lib.hid (World.ownsRow_lit (base := w.heap.size) (e := 5) (size := 1) w #[] 0 (Nat.le_refl _) (by decide) rfl)
    go_enter Tryd.func67, Tryd.ntmps67
    go_wp2_with ((at_builtin; refine wpList_append_rd rfl _ _ 25 rfl w.heap.size 5 (.int .u8 0) 1 Tryd.underlying25 info_byte rfl (.slice (some ⟨w.heap.size, 0, none⟩) 0 0) (.slice (some ad) xs.length cap) [] xs rfl rfl HO.out (HR.out.grow ((Below.refl _ _).alloc (Nat.le_refl _) _)) HX.out (by simp; omega) (by simp; omega) (by simp) ?_; intro v' w' k1 k2 k3))
    go_ret
    exact Returns.mk ⟨k1, ((Below.refl _ _).alloc (Nat.le_refl _) _).grown k2 (by simp) (by simp [Value.ownBlock])⟩
theorem clone_any (v : Value) (xs : List Value) (w : World) (hrd : Rd w v xs) (h1 : ∀ u ∈ xs, u.oneCell' = true) (hlen : xs.length ≤ 140737488355328) :
    Calls Tryd.prog 67 #[v] w (RetSl xs.length fun v' w' => w'.ownsRow w.heap.size 5 1 v' xs.length xs ∧ Below w.heap.size w w') :=
  (clone_any0 v xs w hrd h1 hlen).mono fun _ _ h => RetSl.of_own h fun _ _ q => q.1
end Go.Proofs.YtifehfcgmodmaaaDoor
