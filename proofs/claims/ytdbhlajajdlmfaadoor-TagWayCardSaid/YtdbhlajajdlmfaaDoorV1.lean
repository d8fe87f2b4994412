/- Law 13, plainly: the sums of a tree's nodes; with another point of one leaf the sums stay of all that are not on its way up. -/
import Derived.Test.YtdbhlajajdlmfaaDoorB7
namespace Go.Proofs.YtdbhlajajdlmfaaDoor
open Go Go.RowKit
abbrev Byt := List (BitVec 8)
/-- "leaf", "node", "red". -/
def leafW : Byt := [108, 101, 97, 102]
def nodeW : Byt := [110, 111, 100, 101]
def redW : Byt := [114, 101, 100]
def kzero : Byt := List.replicate 32 0
/-- A tree that may be, with its points. -/
def tagOk (kind : Int) (ids : List Int) (ls : List (List Int)) (ps : List Byt) : Prop := mayE kind ids ls = 0 ∧ 0 < (nodesL kind ids ls).length ∧ (nodesL kind ids ls).length = ps.length ∧ kzero ∉ ps
instance (kind : Int) (ids : List Int) (ls : List (List Int)) (ps : List Byt) : Decidable (tagOk kind ids ls ps) := by unfold tagOk; infer_instance
def tagE (kind : Int) (ids : List Int) (ls : List (List Int)) (ps : List Byt) : Int := if tagOk kind ids ls ps then 0 else 1
/-- What a node's sum is of; nb: a member's four bytes. -/
def partsN (nb : Int → Byt) (N : List Nd) (ids : List Int) (ps S : List Byt) (i : Nat) : List Byt :=
  if (N.getD i nd0).lv = 0 then [leafW, nb (ids.getD (N.getD i nd0).ix.toNat 0), ps.getD i []]
  else (if (N.getD i nd0).rd then redW else nodeW) :: ps.getD i [] :: (N.getD i nd0).ks.map fun k => S.getD k.toNat []
/-- The first nodes' sums; h: what parts come to. -/
def sumsN (h : List Byt → Byt) (nb : Int → Byt) (N : List Nd) (ids : List Int) (ps : List Byt) : Nat → List Byt
  | 0 => []
  | i + 1 => sumsN h nb N ids ps i ++ [h (partsN nb N ids ps (sumsN h nb N ids ps i) i)]
theorem sumsN_length (h : List Byt → Byt) (nb : Int → Byt) (N : List Nd) (ids : List Int) (ps : List Byt) : ∀ i, (sumsN h nb N ids ps i).length = i
  | 0 => rfl
  | i + 1 => by rw [sumsN, List.length_append, sumsN_length h nb N ids ps i]; rfl
theorem sumsN_pre (h : List Byt → Byt) (nb : Int → Byt) (N : List Nd) (ids : List Int) (ps : List Byt) {k i : Nat} (hk : k < i) : ∀ n, i ≤ n → (sumsN h nb N ids ps n).getD k [] = (sumsN h nb N ids ps i).getD k []
  | 0, hn => by omega
  | n + 1, hn => by
    by_cases e : i = n + 1
    · rw [e]
    · rw [sumsN, List.getD_eq_getElem?_getD, List.getElem?_append_left (by rw [sumsN_length]; omega), ← List.getD_eq_getElem?_getD]
      exact sumsN_pre h nb N ids ps hk n (by omega)
theorem sumsN_at (h : List Byt → Byt) (nb : Int → Byt) (N : List Nd) (ids : List Int) (ps : List Byt) {i n : Nat} (hi : i < n) : (sumsN h nb N ids ps n).getD i [] = h (partsN nb N ids ps (sumsN h nb N ids ps i) i) := by
  rw [sumsN_pre h nb N ids ps (Nat.lt_succ_self i) n hi, sumsN, List.getD_eq_getElem?_getD, List.getElem?_append_right (by rw [sumsN_length]; exact Nat.le_refl _), sumsN_length, Nat.sub_self]
  rfl
/-- TagWay, plainly. -/
theorem sums_way {h : List Byt → Byt} {nb : Int → Byt} {N : List Nd} {ids : List Int} {ps : List Byt} {i0 : Nat} {W : List Int} {q : Byt} (ht : TrF N ids) (hw : WaySpec N i0 W) (h0 : (N.getD i0 nd0).lv = 0) : ∀ n, n ≤ N.length → ∀ k, k < n → (k : Int) ∉ W → (sumsN h nb N ids (ps.set i0 q) n).getD k [] = (sumsN h nb N ids ps n).getD k []
  | 0, _, k, hk, _ => absurd hk (Nat.not_lt_zero _)
  | n + 1, hn, k, hk, hkw => by
    have ih := sums_way (h := h) (nb := nb) (ps := ps) (q := q) ht hw h0 n (by omega)
    by_cases e : k < n
    · rw [sumsN_pre h nb N ids _ e (n + 1) (by omega), sumsN_pre h nb N ids _ e (n + 1) (by omega), ← sumsN_pre h nb N ids (ps.set i0 q) (Nat.lt_of_lt_of_le e (Nat.le_refl n)) n (Nat.le_refl n)]
      exact ih k e hkw
    · obtain rfl : k = n := by omega
      rw [sumsN_at h nb N ids _ (Nat.lt_succ_self k), sumsN_at h nb N ids _ (Nat.lt_succ_self k)]
      have hne : k ≠ i0 := fun q => hkw (by rw [q, ← hw.head]; exact way_mem hw hw.pos)
      have hp : (ps.set i0 q).getD k [] = ps.getD k [] := by
        rw [List.getD_eq_getElem?_getD, List.getElem?_set_ne (fun q => hne q.symm), ← List.getD_eq_getElem?_getD]
      congr 1
      unfold partsN
      rw [hp]
      by_cases hz : (N.getD k nd0).lv = 0
      · rw [if_pos hz, if_pos hz]
      · rw [if_neg hz, if_neg hz]
        congr 2
        refine List.map_congr_left fun c hc => ?_
        obtain ⟨j, rfl, hj, -⟩ := ht.kd k (by omega) c hc
        rw [Int.toNat_natCast]
        exact ih j hj fun q => hkw ((way_kid ht hw h0 (by omega) hz).2 ⟨_, hc, q⟩)
end Go.Proofs.YtdbhlajajdlmfaaDoor
