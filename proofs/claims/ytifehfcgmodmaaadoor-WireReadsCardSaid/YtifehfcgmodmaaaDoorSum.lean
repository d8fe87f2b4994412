/- A sum in progress, of any bytes: what it is behind more bytes. Lists of byte slices. No program here. -/
import Derived.Test.YtifehfcgmodmaaaDoorCheck
namespace Go.Proofs.YtifehfcgmodmaaaDoor
open Go Go.RowKit
/-- The state behind the whole blocks of d, and what is left. -/
def shaSt (K : Nat → BitVec 32) (s : St) (d : List (BitVec 8)) : St := absorb K (d.length / 64) s d
def restOf (d : List (BitVec 8)) : List (BitVec 8) := d.drop (64 * (d.length / 64))
theorem restOf_length (d : List (BitVec 8)) : (restOf d).length = d.length % 64 := by unfold restOf; rw [List.length_drop]; omega
theorem mixed_congr (K : Nat → BitVec 32) (s : St) {B B' : Nat → BitVec 8} (h : ∀ i, i < 64 → B i = B' i) : mixed K s B = mixed K s B' := by
  have e : blockWords B = blockWords B' := by
    unfold blockWords
    apply List.map_congr_left
    intro t ht
    have ht' : t < 16 := by simpa using ht
    rw [h _ (by omega), h _ (by omega), h _ (by omega), h _ (by omega)]
  unfold mixed
  rw [e]
theorem absorb_append (K : Nat → BitVec 32) : ∀ (n : Nat) (s : St) (l m : List (BitVec 8)), 64 * n ≤ l.length → absorb K n s (l ++ m) = absorb K n s l
  | 0, _, _, _, _ => rfl
  | n + 1, s, l, m, h => by
    show absorb K n (mixed K s fun i => (l ++ m).getD i 0) ((l ++ m).drop 64) = absorb K n (mixed K s fun i => l.getD i 0) (l.drop 64)
    rw [List.drop_append_of_le_length (by omega), absorb_append K n _ _ _ (by rw [List.length_drop]; omega)]
    rw [mixed_congr K s (B' := fun i => l.getD i 0) fun i hi => by simp only [List.getD_eq_getElem?_getD]; rw [List.getElem?_append_left (by omega)]]
theorem absorb_add (K : Nat → BitVec 32) : ∀ (m n : Nat) (s : St) (l : List (BitVec 8)), absorb K (m + n) s l = absorb K n (absorb K m s l) (l.drop (64 * m))
  | 0, n, s, l => by simp [absorb]
  | m + 1, n, s, l => by
    rw [show m + 1 + n = (m + n) + 1 by omega]
    show absorb K (m + n) (mixed K s fun i => l.getD i 0) (l.drop 64) = absorb K n (absorb K m (mixed K s fun i => l.getD i 0) (l.drop 64)) (l.drop (64 * (m + 1)))
    rw [absorb_add K m n, List.drop_drop, show 64 + 64 * m = 64 * (m + 1) by omega]
theorem sha_step (K : Nat → BitVec 32) (s : St) (d b : List (BitVec 8)) : absorb K ((restOf d ++ b).length / 64) (shaSt K s d) (restOf d ++ b) = shaSt K s (d ++ b) ∧ (restOf d ++ b).drop (64 * ((restOf d ++ b).length / 64)) = restOf (d ++ b) := by
  have hl := restOf_length d
  have e1 : (d ++ b).length / 64 = d.length / 64 + (restOf d ++ b).length / 64 := by rw [List.length_append, List.length_append, hl]; omega
  have e2 : (d ++ b).drop (64 * (d.length / 64)) = restOf d ++ b := by unfold restOf; rw [List.drop_append_of_le_length (by omega)]
  constructor
  · show _ = absorb K ((d ++ b).length / 64) s (d ++ b)
    rw [e1, absorb_add, e2, absorb_append K (d.length / 64) s d b (by omega)]
    rfl
  · show _ = (d ++ b).drop (64 * ((d ++ b).length / 64))
    rw [e1, Nat.mul_add, ← List.drop_drop, e2]
theorem shaSt_short (K : Nat → BitVec 32) (s : St) (d : List (BitVec 8)) (h : d.length < 64) : shaSt K s d = s ∧ restOf d = d := by
  have e : d.length / 64 = 0 := by omega
  unfold shaSt restOf
  rw [e]
  exact ⟨rfl, rfl⟩
/-- A slice of byte slices reads as a list of lists. -/
def RdAll (w : World) (v : Value) (ps : List (List (BitVec 8))) : Prop := ∃ vs, Rd w v vs ∧ vs.length = ps.length ∧ ∀ i v, vs[i]? = some v → Rd w v (bv (ps.getD i []))
theorem RdAll.fr {w w' : World} {v : Value} {ps : List (List (BitVec 8))} (h : RdAll w v ps) {S : Nat → Prop} (hf : Fr S w w') (hn : ∀ k, k < w.heap.size → ¬ S k) : RdAll w' v ps := by
  obtain ⟨vs, h1, h2, h3⟩ := h
  exact ⟨vs, h1.fr hf (fun g hg hx => hn g (h1.lt hg hx)), h2, fun i v hv => (h3 i v hv).fr hf (fun g hg hx => hn g ((h3 i v hv).lt hg hx))⟩
theorem RdAll.below {w w' : World} {v : Value} {ps : List (List (BitVec 8))} (h : RdAll w v ps) (hb : Below w.heap.size w w') : RdAll w' v ps := h.fr (Fr.of_below (S := fun _ => False) hb) (fun _ _ h => h)
theorem RdAll.shape {w : World} {v : Value} {ps : List (List (BitVec 8))} (h : RdAll w v ps) : ∃ ao cap, v = .slice ao ps.length cap ∧ ps.length ≤ 9223372036854775807 := by
  obtain ⟨vs, ⟨ao, cap, rfl, r1, r2, r3, r4⟩, h2, h3⟩ := h
  exact ⟨ao, cap, by rw [h2], by omega⟩
theorem RdAll.cell {w : World} {v : Value} {ps : List (List (BitVec 8))} (h : RdAll w v ps) {i : Nat} (hi : i < ps.length) : ∃ g o cap u, v = .slice (some ⟨g, o, none⟩) ps.length cap ∧ w.cell? ⟨g, o + i, none⟩ = some u ∧ Rd w u (bv (ps.getD i [])) := by
  obtain ⟨vs, h1, h2, h3⟩ := h
  obtain ⟨g, o, cap, rfl, r1, r2, r3, r4⟩ := h1.at (by omega)
  have hv : vs[i]? = some (vs[i]'(by omega)) := List.getElem?_eq_getElem (by omega)
  exact ⟨g, o, cap, _, by rw [h2], r4 i _ hv, h3 i _ hv⟩
theorem flatten_take_succ {α : Type} (ps : List (List α)) (i : Nat) (h : i < ps.length) : (ps.take (i + 1)).flatten = (ps.take i).flatten ++ ps.getD i [] := by
  rw [List.take_succ_eq_append_getElem h, List.flatten_append]
  simp [List.getD_eq_getElem?_getD, List.getElem?_eq_getElem h]
theorem flatten_take_le {α : Type} : ∀ (ps : List (List α)) (i : Nat), (ps.take i).flatten.length ≤ ps.flatten.length
  | [], i => by simp
  | p :: ps, 0 => by simp
  | p :: ps, i + 1 => by
    have := flatten_take_le ps i
    simp only [List.take_succ_cons, List.flatten_cons, List.length_append]
    omega
theorem getD_flatten_le {α : Type} (ps : List (List α)) (i : Nat) (h : i < ps.length) : (ps.take i).flatten.length + (ps.getD i []).length ≤ ps.flatten.length := by
  have h1 := flatten_take_le ps (i + 1)
  rw [flatten_take_succ ps i h, List.length_append] at h1
  exact h1
end Go.Proofs.YtifehfcgmodmaaaDoor
