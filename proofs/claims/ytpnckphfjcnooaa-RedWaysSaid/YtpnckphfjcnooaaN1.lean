/- Nodes (api.Node) in memory: lists of them that are read, and of one's own. -/
import Derived.Test.YtpnckphfjcnooaaStRow
import Derived.Test.YtpnckphfjcnooaaT7
namespace Go.Proofs.Ytpnckphfjcnooaa
open Go Go.RowKit
/-- A node, as numbers. -/
structure Nd where
  lv : Int
  ix : Int
  rd : Bool
  fr : Int
  tt : Int
  ks : List Int
  up : Int
deriving DecidableEq
def nd0 : Nd := ⟨0, 0, false, 0, 0, [], 0⟩
def ndR (x : Nd) (kv : Value) : List Value := [.int .i64 x.lv, .int .i64 x.ix, .bool x.rd, .int .i64 x.fr, .int .i64 x.tt, kv, .int .i64 x.up]
def ndP : Nd × Value := (nd0, .slice none 0 0)
def ndRs (ps : List (Nd × Value)) : List (List Value) := ps.map fun p => ndR p.1 p.2
theorem ndR_length (x : Nd) (kv : Value) : (ndR x kv).length = 7 := rfl
theorem ndRs_length (ps : List (Nd × Value)) : (ndRs ps).length = ps.length := List.length_map ..
theorem ndRs_append (ps qs : List (Nd × Value)) : ndRs (ps ++ qs) = ndRs ps ++ ndRs qs := List.map_append
theorem ndRs_at {ps : List (Nd × Value)} {i : Nat} (hi : i < ps.length) : (ndRs ps).getD i [] = ndR (ps.getD i ndP).1 (ps.getD i ndP).2 := by
  simp [ndRs, List.getD_eq_getElem?_getD, List.getElem?_eq_getElem hi]
theorem ndR_one {x : Nd} {a : Option Addr} {n c : Nat} : ∀ u ∈ ndR x (.slice a n c), u.oneCell' = true := by
  intro u hu
  simp only [ndR, List.mem_cons, List.not_mem_nil, or_false] at hu
  rcases hu with rfl | rfl | rfl | rfl | rfl | rfl | rfl <;> rfl
/-- A slice of nodes reads as these nodes (each with its kids' slice). -/
structure RdN (w : World) (v : Value) (ps : List (Nd × Value)) : Prop where
  row : RdR 7 w v (ndRs ps)
  kid : ∀ p ∈ ps, Rd w p.2 (zv p.1.ks)
theorem RdN.aft {w w' : World} {v : Value} {ps : List (Nd × Value)} (h : RdN w v ps) (ha : Aft w w') : RdN w' v ps := ⟨h.row.grow ha, fun p hp => (h.kid p hp).grow ha⟩
theorem RdN.shape {w : World} {v : Value} {ps : List (Nd × Value)} (h : RdN w v ps) : ∃ ao cap, v = .slice ao ps.length cap ∧ ps.length ≤ cap ∧ cap ≤ 9223372036854775807 := by
  have := h.row.shape
  rwa [ndRs_length] at this
/-- A slice of nodes of one's own, the kids' slices too. -/
structure OwnN (w : World) (base : Nat) (v : Value) (ps : List (Nd × Value)) : Prop where
  row : OwnR 7 41 w base v (ndRs ps)
  own : ∀ p ∈ ps, OwnI w base p.2 p.1.ks
theorem OwnN.nil (w : World) (base : Nat) : OwnN w base (.slice none 0 0) [] := ⟨OwnR.nil 7 _ w base, fun p hp => by simp at hp⟩
theorem OwnN.mono {w : World} {base base' : Nat} {v : Value} {ps : List (Nd × Value)} (h : OwnN w base v ps) (hb : base' ≤ base) : OwnN w base' v ps := ⟨h.row.mono hb, fun p hp => (h.own p hp).mono hb⟩
theorem OwnN.aft {w w' : World} {base : Nat} {v : Value} {ps : List (Nd × Value)} (h : OwnN w base v ps) (ha : Aft w w') : OwnN w' base v ps := ⟨h.row.aft ha, fun p hp => (h.own p hp).aft ha⟩
theorem OwnN.rd {w : World} {base : Nat} {v : Value} {ps : List (Nd × Value)} (h : OwnN w base v ps) : RdN w v ps := ⟨h.row.rd, fun p hp => (h.own p hp).rd⟩
theorem OwnN.shape {w : World} {base : Nat} {v : Value} {ps : List (Nd × Value)} (h : OwnN w base v ps) : ∃ ao cap, v = .slice ao ps.length cap := by
  have := h.row.shape
  rwa [ndRs_length] at this
theorem OwnN.lt {w : World} {base : Nat} {v : Value} {ps : List (Nd × Value)} (h : OwnN w base v ps) : ∀ g, v.ownBlock = some g → base ≤ g ∧ g < w.heap.size := h.row.lt
theorem own_ne2 {w : World} {B1 B2 e1 e2 s1 s2 n1 n2 : Nat} {v1 v2 : Value} {x1 x2 : List Value} (h1 : w.ownsRow B1 e1 s1 v1 n1 x1) (h2 : w.ownsRow B2 e2 s2 v2 n2 x2) (he : e1 ≠ e2) {g : Nat} (hg : v2.ownBlock = some g) : v1.ownBlock ≠ some g := by
  rcases h1.2 with ⟨rfl, -⟩ | ⟨g1, c1, k1, rfl, -, q1, -⟩
  · exact fun q => by cases q
  · rcases h2.2 with ⟨rfl, -⟩ | ⟨g2, c2, k2, rfl, -, q2, -⟩
    · cases hg
    · cases hg
      intro e
      cases e
      rw [q1] at q2
      cases q2
      exact he rfl
/-- Where only the row was turned, the kids stay. -/
theorem OwnN.kids {w w' : World} {base : Nat} {v : Value} {ps : List (Nd × Value)} (h : OwnN w base v ps) (hf : Fr (fun b => v.ownBlock = some b) w w') : ∀ p ∈ ps, OwnI w' base p.2 p.1.ks := fun p hp =>
  (h.own p hp).fr hf fun g hg e => own_ne2 h.row.2 (h.own p hp) (by decide) hg e
/-- Nothing of it was turned. -/
theorem OwnN.keep {w w' : World} {base : Nat} {v : Value} {ps : List (Nd × Value)} (h : OwnN w base v ps) {S : Nat → Prop} (hf : Fr S w w') (h1 : ∀ g, v.ownBlock = some g → ¬ S g) (h2 : ∀ p ∈ ps, ∀ g, p.2.ownBlock = some g → ¬ S g) : OwnN w' base v ps :=
  ⟨h.row.keep fun g hg => hf.block g (h.lt g hg).2 (h1 g hg), fun p hp => (h.own p hp).fr hf (h2 p hp)⟩
theorem ndRs_row {w : World} {base : Nat} {v : Value} {ps : List (Nd × Value)} (h : OwnN w base v ps) : Row 7 (ndRs ps) := h.row.1
/-- The cells of a node. -/
theorem OwnN.at {w : World} {base : Nat} {v : Value} {ps : List (Nd × Value)} (h : OwnN w base v ps) {i : Nat} (hi : i < ps.length) :
    ∃ g cap, v = .slice (some ⟨g, 0, none⟩) ps.length cap ∧ ∀ (j : Nat) (u : Value), (ndR (ps.getD i ndP).1 (ps.getD i ndP).2)[j]? = some u → w.cell? ⟨g, i * 7 + j, none⟩ = some u := by
  obtain ⟨g, o, cap, h1, h2, h3⟩ := h.row.rd.at (i := i) (by rw [ndRs_length]; exact hi)
  have ho : o = 0 := by
    rcases h.row.2.2 with ⟨rfl, -⟩ | ⟨g', c', k', he, -⟩
    · cases h1
    · rw [he] at h1
      cases h1
      rfl
  subst ho
  rw [ndRs_length] at h1
  refine ⟨g, cap, h1, fun j u hu => ?_⟩
  have := h3 w (Aft.refl w) j u (by rw [ndRs_at hi]; exact hu)
  rwa [Nat.zero_add] at this
/-- The way up of one node told. -/
def upS (ps : List (Nd × Value)) (k : Nat) (n : Int) : List (Nd × Value) := ps.set k ({ (ps.getD k ndP).1 with up := n }, (ps.getD k ndP).2)
theorem upS_length (ps : List (Nd × Value)) (k : Nat) (n : Int) : (upS ps k n).length = ps.length := List.length_set ..
theorem rows_set : ∀ {sz : Nat} {rs : List (List Value)}, Row sz rs → ∀ i, i < rs.length → ∀ r : List Value, r.length = sz → (rs.set i r).flatten = rs.flatten.take (i * sz) ++ (r ++ rs.flatten.drop (i * sz + sz))
  | _, [], _, i, hi, _, _ => by simp at hi
  | sz, q :: rs, h, 0, _, r, hr => by
    have hq := (h q (by simp)).1
    simp only [List.set_cons_zero, List.flatten_cons, Nat.zero_mul, List.take_zero, List.nil_append, Nat.zero_add]
    rw [List.drop_append_of_le_length (by omega), List.drop_of_length_le (by omega), List.nil_append]
  | sz, q :: rs, h, i + 1, hi, r, hr => by
    have hq := (h q (by simp)).1
    simp only [List.set_cons_succ, List.flatten_cons]
    rw [rows_set (fun x hx => h x (by simp [hx])) i (by simpa using hi) r hr, List.take_append, List.drop_append, hq, show (i + 1) * sz - sz = i * sz by rw [Nat.add_mul]; omega, show (i + 1) * sz + sz - sz = i * sz + sz by rw [Nat.add_mul]; omega,
      List.take_of_length_le (l := q) (by rw [hq, Nat.add_mul]; omega), List.drop_of_length_le (l := q) (by rw [hq, Nat.add_mul]; omega), List.nil_append, List.append_assoc]
theorem info_node : (Try.prog.info? 41).map (·.size) = some 7 := by kernel_rfl
section
variable {ops : Array Oper} {rest : List Oper} {o : Oper} {a : Act} {w : World} {Q : Exit → Act → World → Prop}
/-- A node's way up is stored. -/
theorem wpList_store_up (hgd : o.guard = none) (x y : Operand) (ho : o.op = .store 3 x y) (base g n cap : Nat) (ps : List (Nd × Value)) (k : Nat) (hk : k < ps.length) (z : Int)
    (hown : OwnN w base (.slice (some ⟨g, 0, none⟩) n cap) ps) (hx : a.eval x = .pointer (some ⟨g, k * 7 + 6, none⟩)) (hy : a.eval y = .int .i64 z)
    (h : ∀ w', Hid (OwnN w' base (.slice (some ⟨g, 0, none⟩) n cap) (upS ps k z)) → Hid (Fr (fun b => (Value.slice (some ⟨g, 0, none⟩) n cap).ownBlock = some b) w w') → wpList Try.prog ops Q rest (a.put o.dst undef) w') : wpList Try.prog ops Q (o :: rest) a w := by
  rcases hown.row.2.2 with ⟨he, -⟩ | ⟨g', cap', cur, he, hb, hg, h1, h2, h3, h4⟩
  · cases he
  cases he
  have hR := hown.row.1
  have hrl := rows_length hR
  rw [ndRs_length] at h1 h4 hrl
  have hfl : (ndRs ps).flatten.length = ps.length * 7 := hrl
  have hcl : cur.toList.length = cap * 7 := by rw [Array.length_toList, h3]
  have hic : k * 7 + 6 < cur.toList.length := by omega
  have e0 : cur.toList = cur.toList.take (k * 7 + 6) ++ ([cur.toList[k * 7 + 6]] ++ cur.toList.drop (k * 7 + 6 + 1)) := by
    have := List.take_append_drop (k * 7 + 6) cur.toList
    rw [List.drop_eq_getElem_cons hic] at this
    exact this.symm
  have hg' : w.heap[g]? = some (.cells (cur.toList.take (k * 7 + 6) ++ ([cur.toList[k * 7 + 6]] ++ cur.toList.drop (k * 7 + 6 + 1))).toArray 41 (0, 0)) := by rw [← e0]; exact hg
  refine wpList_store_part hgd _ x y ho g (k * 7 + 6) (.int .i64 z) hx hy _ (cur.toList.take (k * 7 + 6)) [cur.toList[k * 7 + 6]] [.int .i64 z] (cur.toList.drop (k * 7 + 6 + 1)) rfl (by rw [List.length_take]; omega) hg' (by kernel_rfl) rfl (fun z hz => by simp at hz; subst hz; rfl) ?_
  intro w' b1 b2 b3
  have e1 : cur.toList.take (k * 7 + 6) ++ ([Value.int .i64 z] ++ cur.toList.drop (k * 7 + 6 + 1)) = cur.toList.set (k * 7 + 6) (.int .i64 z) := by
    rw [List.set_eq_take_append_cons_drop, if_pos hic]
    rfl
  have hb1 := b1.out
  rw [e1] at hb1
  have hf : Fr (fun b => (Value.slice (some ⟨g, 0, none⟩) (ndRs ps).length cap).ownBlock = some b) w w' := fr_store rfl b2.out b3
  have hset : (ndRs (upS ps k z)).flatten = (ndRs ps).flatten.set (k * 7 + 6) (.int .i64 z) := by
    have e2 : ndRs (upS ps k z) = (ndRs ps).set k (ndR { (ps.getD k ndP).1 with up := z } (ps.getD k ndP).2) := by
      unfold ndRs upS
      rw [List.map_set]
    rw [e2, rows_set hR k (by rw [ndRs_length]; exact hk) _ rfl]
    refine List.ext_getElem? fun j => ?_
    rw [List.getElem?_append, List.getElem?_append, List.length_take, hfl, ndR_length, List.getElem?_take, List.getElem?_drop, List.getElem?_set]
    have hmin : min (k * 7) (ps.length * 7) = k * 7 := by omega
    rw [hmin]
    by_cases c1 : j < k * 7
    · rw [if_pos c1, if_pos c1, if_neg (by omega)]
    · rw [if_neg c1]
      by_cases c2 : j - k * 7 < 7
      · rw [if_pos c2]
        have hr := rows_at hR k (j - k * 7) (by rw [ndRs_length]; exact hk) c2
        rw [show k * 7 + (j - k * 7) = j by omega, ndRs_at hk] at hr
        by_cases c3 : k * 7 + 6 = j
        · subst c3
          rw [if_pos rfl, if_pos (by rw [hfl]; omega), show k * 7 + 6 - k * 7 = 6 by omega]
          rfl
        · rw [if_neg c3, hr]
          have h5 : j - k * 7 < 6 := by omega
          generalize j - k * 7 = m at h5
          match m, h5 with
          | 0, _ => rfl
          | 1, _ => rfl
          | 2, _ => rfl
          | 3, _ => rfl
          | 4, _ => rfl
          | 5, _ => rfl
      · rw [if_neg c2, if_neg (by omega), show k * 7 + 7 + (j - k * 7 - 7) = j by omega]
  have hRow : Row 7 (ndRs (upS ps k z)) := by
    unfold ndRs upS
    rw [List.map_set]
    intro r hr
    rcases List.mem_or_eq_of_mem_set hr with hr | rfl
    · exact hR r hr
    · refine ⟨rfl, fun u hu => ?_⟩
      have hq := (hR.at (i := k) (by rw [ndRs_length]; exact hk)).2
      rw [ndRs_at hk] at hq
      simp only [ndR, List.mem_cons, List.not_mem_nil, or_false] at hu hq
      rcases hu with rfl | rfl | rfl | rfl | rfl | rfl | rfl
      · rfl
      · rfl
      · rfl
      · rfl
      · rfl
      · exact hq _ (.inr (.inr (.inr (.inr (.inr (.inl rfl))))))
      · rfl
  refine h w' (Lib.hid ⟨⟨hRow, ?_⟩, fun p hp => ?_⟩) (Lib.hid hf)
  · refine ⟨?_, .inr ⟨g, cap, _, ?_, hb, hb1, ?_, h2, ?_, ?_⟩⟩
    · rw [hset, List.length_set, ndRs_length, upS_length]
      exact hrl
    · rw [ndRs_length, ndRs_length, upS_length]
    · rw [ndRs_length, upS_length]
      exact h1
    · rw [List.size_toArray, List.length_set]
      exact hcl
    · rw [ndRs_length, upS_length, hset, ← h4]
      exact List.take_set
  · have hp' : p ∈ ps ∨ p = ({ (ps.getD k ndP).1 with up := z }, (ps.getD k ndP).2) := List.mem_or_eq_of_mem_set hp
    rcases hp' with hp' | rfl
    · exact hown.kids hf p hp'
    · refine hown.kids hf (ps.getD k ndP) ?_
      rw [List.getD_eq_getElem?_getD, List.getElem?_eq_getElem hk]
      exact List.getElem_mem hk
end
end Go.Proofs.Ytpnckphfjcnooaa
