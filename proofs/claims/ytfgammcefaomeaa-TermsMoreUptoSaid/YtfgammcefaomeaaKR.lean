/- Rules (api.Rule) in memory: lists of them that are read. -/
import Derived.Test.YtfgammcefaomeaaB2
import Derived.Test.YtfgammcefaomeaaK4
namespace Go.Proofs.Ytfgammcefaomeaa
open Go Go.RowKit
def rl0 : Rl := ⟨[], 0⟩
def rlR (r : Rl) (v : Value) : List Value := [v, .int .i64 r.to]
def rlP : Rl × Value := (⟨[], 0⟩, .slice none 0 0)
def rlRs (ps : List (Rl × Value)) : List (List Value) := ps.map fun p => rlR p.1 p.2
theorem rlR_length (r : Rl) (v : Value) : (rlR r v).length = 2 := rfl
theorem rlRs_length (ps : List (Rl × Value)) : (rlRs ps).length = ps.length := List.length_map ..
theorem rlRs_at {ps : List (Rl × Value)} {i : Nat} (hi : i < ps.length) : (rlRs ps).getD i [] = rlR (ps.getD i rlP).1 (ps.getD i rlP).2 := by
  simp [rlRs, List.getD_eq_getElem?_getD, List.getElem?_eq_getElem hi]
theorem rlR_one {r : Rl} {a : Option Addr} {n c : Nat} : ∀ u ∈ rlR r (.slice a n c), u.oneCell' = true := by
  intro u hu
  simp only [rlR, List.mem_cons, List.not_mem_nil, or_false] at hu
  rcases hu with rfl | rfl <;> rfl
/-- A slice of rules reads as these rules (each with its numbers' slice). -/
structure RdRl (w : World) (v : Value) (ps : List (Rl × Value)) : Prop where
  row : RdR 2 w v (rlRs ps)
  kid : ∀ p ∈ ps, Rd w p.2 (zv p.1.frm)
theorem RdRl.aft {w w' : World} {v : Value} {ps : List (Rl × Value)} (h : RdRl w v ps) (ha : Aft w w') : RdRl w' v ps := ⟨h.row.grow ha, fun p hp => (h.kid p hp).grow ha⟩
theorem RdRl.shape {w : World} {v : Value} {ps : List (Rl × Value)} (h : RdRl w v ps) : ∃ ao cap, v = .slice ao ps.length cap ∧ ps.length ≤ cap ∧ cap ≤ 9223372036854775807 := by
  have := h.row.shape
  rwa [rlRs_length] at this
theorem rlP_mem {ps : List (Rl × Value)} {i : Nat} (hi : i < ps.length) : ps.getD i rlP ∈ ps := by
  rw [List.getD_eq_getElem?_getD, List.getElem?_eq_getElem hi]
  exact List.getElem_mem hi
theorem RdRl.kidAt {w : World} {v : Value} {ps : List (Rl × Value)} (h : RdRl w v ps) {i : Nat} (hi : i < ps.length) : Rd w (ps.getD i rlP).2 (zv (ps.getD i rlP).1.frm) := h.kid _ (rlP_mem hi)
theorem fst_ru {ps : List (Rl × Value)} {i : Nat} (hi : i < ps.length) : ru (ps.map Prod.fst) i = (ps.getD i rlP).1 := by
  simp [ru, List.getD_eq_getElem?_getD, List.getElem?_eq_getElem hi]
/-- The cells of a rule, in whatever world follows. -/
theorem RdRl.at {w : World} {v : Value} {ps : List (Rl × Value)} (h : RdRl w v ps) {i : Nat} (hi : i < ps.length) :
    ∃ g o cap, v = .slice (some ⟨g, o, none⟩) ps.length cap ∧ ∀ wx, Aft w wx → wx.rangeAt g (o + i * 2) (rlR (ps.getD i rlP).1 (ps.getD i rlP).2) := by
  obtain ⟨g, o, cap, h1, h2, h3⟩ := h.row.at (i := i) (by rw [rlRs_length]; exact hi)
  rw [rlRs_at hi] at h3
  rw [rlRs_length] at h1
  exact ⟨g, o, cap, h1, h3⟩
theorem rl_info {r : Rl} {v : Value} : (Try.prog.info? 58).map (·.size) = some (rlR r v).length := by
  rw [rlR_length]
  kernel_rfl
theorem alloc_rl (w : World) : (Instr.alloc 58 true (.tuple #[])).run Try.prog w = .ok (.pointer (some ⟨w.heap.size, 0, none⟩)) (w.alloc (.cells (rlR rl0 (.slice none 0 0)).toArray 58)) := by kernel_rfl
theorem rl_cell {w : World} {g o : Nat} {r : Rl} {v : Value} (h : w.rangeAt g o (rlR r v)) : w.cell? ⟨g, o + 0, none⟩ = some v ∧ w.cell? ⟨g, o + 1, none⟩ = some (.int .i64 r.to) := ⟨h 0 _ rfl, h 1 _ rfl⟩
end Go.Proofs.Ytfgammcefaomeaa
