/- The document's nodes in memory; slices of structs cut and grown. -/
import Derived.Test.YtfgammcefaomeaaW3
import Derived.Test.YtfgammcefaomeaaB3
import Derived.Test.YtfgammcefaomeaaB2
import Derived.Maps.AppendAt
namespace Go.Proofs.Ytfgammcefaomeaa
open Go Go.RowKit
set_option linter.unusedSimpArgs false
theorem RdR.keep {sz : Nat} {w w' : World} {v : Value} {rs : List (List Value)} (h : RdR sz w v rs) (hk : ∀ g, v.ownBlock = some g → g < w.heap.size → w'.heap[g]? = w.heap[g]?) (hs : w.heap.size ≤ w'.heap.size) : RdR sz w' v rs := by
  refine ⟨h.1, ?_⟩
  rcases h.2 with h | ⟨g, o, cap, h1, h2, h3, h4, h5⟩
  · exact .inl h
  · refine .inr ⟨g, o, cap, h1, h2, h3, Nat.lt_of_lt_of_le h4 hs, fun i hi j u hu => ?_⟩
    have hg := hk g (by rw [h1]; rfl) h4
    have := h5 i hi j u hu
    simp only [World.cell?] at this ⊢
    rw [hg]
    exact this
theorem RdR.blk {sz : Nat} {w : World} {v : Value} {rs : List (List Value)} (h : RdR sz w v rs) : ∀ g, v.ownBlock = some g → g < w.heap.size := by
  intro g hg
  rcases h.2 with ⟨rfl, -⟩ | ⟨g', o, cap, rfl, -, -, h4, -⟩
  · cases hg
  · cases hg
    exact h4
theorem RdR.to {sz : Nat} {w : World} {ao : Option Addr} {len cap : Nat} {rs : List (List Value)} (h : RdR sz w (.slice ao len cap) rs) {n c : Nat} (hn : n ≤ rs.length) (hc : n ≤ c) (hc2 : c ≤ cap) : RdR sz w (.slice ao n c) (rs.take n) := by
  have hr : Row sz (rs.take n) := fun r hr => h.1 r (List.mem_of_mem_take hr)
  have hl : (rs.take n).length = n := by rw [List.length_take]; omega
  refine ⟨hr, ?_⟩
  rcases h.2 with ⟨h1, h2⟩ | ⟨g, o, c', h1, h2, h3, h4, h5⟩
  · injection h1 with e1 e2 e3
    subst e1 e3 h2
    simp only [List.length_nil] at hn
    obtain rfl : n = 0 := by omega
    obtain rfl : c = 0 := by omega
    exact .inl ⟨rfl, rfl⟩
  · injection h1 with e1 e2 e3
    subst e1 e3
    refine .inr ⟨g, o, c, by rw [hl], by omega, by omega, h4, fun i hi => ?_⟩
    rw [hl] at hi
    have : (rs.take n).getD i [] = rs.getD i [] := by rw [List.getD_eq_getElem?_getD, List.getElem?_take_of_lt hi, ← List.getD_eq_getElem?_getD]
    rw [this]
    exact h5 i (by omega)
theorem RdR.from {sz : Nat} {w : World} {ao : Option Addr} {len cap : Nat} {rs : List (List Value)} (h : RdR sz w (.slice ao len cap) rs) {n : Nat} (hn : n ≤ rs.length) : RdR sz w (.slice (if cap = n then ao else ao.map (·.add (n * sz))) (rs.length - n) (cap - n)) (rs.drop n) := by
  have hr : Row sz (rs.drop n) := fun r hr => h.1 r (List.mem_of_mem_drop hr)
  have hl : (rs.drop n).length = rs.length - n := List.length_drop
  refine ⟨hr, ?_⟩
  rcases h.2 with ⟨h1, h2⟩ | ⟨g, o, c', h1, h2, h3, h4, h5⟩
  · injection h1 with e1 e2 e3
    subst e1 e3 h2
    simp only [List.length_nil] at hn
    obtain rfl : n = 0 := by omega
    exact .inl ⟨rfl, rfl⟩
  · injection h1 with e1 e2 e3
    subst e1 e3
    by_cases hc : cap = n
    · rw [if_pos hc]
      refine .inr ⟨g, o, cap - n, by rw [hl], by omega, by omega, h4, fun i hi => by omega⟩
    · rw [if_neg hc]
      refine .inr ⟨g, o + n * sz, cap - n, ?_, by omega, by omega, h4, fun i hi => ?_⟩
      · rw [hl, Option.map_some]
        rw [Addr.add_lit]
      · have : (rs.drop n).getD i [] = rs.getD (n + i) [] := by rw [List.getD_eq_getElem?_getD, List.getElem?_drop, ← List.getD_eq_getElem?_getD]
        rw [this, Nat.add_assoc, ← Nat.add_mul]
        exact h5 (n + i) (by omega)
/-- All the cells of a slice of structs. -/
theorem RdR.cells {sz : Nat} {w : World} {g o len cap : Nat} {rs : List (List Value)} (h : RdR sz w (.slice (some ⟨g, o, none⟩) len cap) rs) : ∀ j u, rs.flatten[j]? = some u → w.cell? ((⟨g, o, none⟩ : Addr).add j) = some u := by
  intro j u hu
  rw [Addr.add_lit]
  rcases h.2 with ⟨h1, -⟩ | ⟨g', o', c', h1, h2, h3, h4, h5⟩
  · cases h1
  · cases h1
    have hj := (List.getElem?_eq_some_iff.1 hu).1
    rw [rows_length h.1] at hj
    have hsz : 0 < sz := by
      apply Nat.pos_of_ne_zero
      rintro rfl
      omega
    have hi : j / sz < rs.length := (Nat.div_lt_iff_lt_mul hsz).2 hj
    have hd : j / sz * sz + j % sz = j := Nat.div_add_mod' j sz
    have hr := rows_at h.1 (j / sz) (j % sz) hi (Nat.mod_lt _ hsz)
    rw [hd, hu] at hr
    have := h5 (j / sz) hi (j % sz) u hr.symm
    rwa [Nat.add_assoc, hd] at this
def idT : (d : Nat) → NT d → Int
  | 0, t => t
  | _ + 1, _ => 0
def ndK {d : Nat} (p : NT d × Value) : List Value := [.int .i64 (idT d p.1), p.2]
def rowsK {d : Nat} (ps : List (NT d × Value)) : List (List Value) := ps.map ndK
theorem rowsK_length {d : Nat} (ps : List (NT d × Value)) : (rowsK ps).length = ps.length := List.length_map ..
/-- A node's slice of what is below, in memory; B: in which blocks. -/
def Kd : (d : Nat) → World → (Nat → Prop) → NT d → Value → Prop
  | 0, _, _, _, k => k = .slice none 0 0
  | d + 1, w, B, t, k => ∃ ps : List (NT d × Value), ps.map Prod.fst = kidsT t ∧ RdR 2 w k (rowsK ps) ∧ (∀ g, k.ownBlock = some g → B g) ∧ ∀ p ∈ ps, Kd d w B p.1 p.2
theorem Kd.keep : ∀ {d : Nat} {w w' : World} {B : Nat → Prop} {t : NT d} {k : Value}, Kd d w B t k → (∀ g, B g → g < w.heap.size → w'.heap[g]? = w.heap[g]?) → w.heap.size ≤ w'.heap.size → Kd d w' B t k
  | 0, _, _, _, _, _, h, _, _ => h
  | _ + 1, _, _, _, _, _, ⟨ps, h1, h2, h3, h4⟩, hk, hs => ⟨ps, h1, h2.keep (fun g hg hl => hk g (h3 g hg) hl) hs, h3, fun p hp => (h4 p hp).keep hk hs⟩
theorem Kd.mono : ∀ {d : Nat} {w : World} {B B' : Nat → Prop} {t : NT d} {k : Value}, Kd d w B t k → (∀ g, B g → g < w.heap.size → B' g) → Kd d w B' t k
  | 0, _, _, _, _, _, h, _ => h
  | _ + 1, _, _, _, _, _, ⟨ps, h1, h2, h3, h4⟩, hB => ⟨ps, h1, h2, fun g hg => hB g (h3 g hg) (h2.blk g hg), fun p hp => (h4 p hp).mono hB⟩
theorem Kd.aft {d : Nat} {w w' : World} {B : Nat → Prop} {t : NT d} {k : Value} (h : Kd d w B t k) (ha : Aft w w') : Kd d w' B t k := h.keep (fun g _ hl => Below.block ha g hl) (Below.size ha)
theorem Kd.shape {d : Nat} {w : World} {B : Nat → Prop} {t : NT (d + 1)} {k : Value} (h : Kd (d + 1) w B t k) : ∃ ao cap, k = .slice ao (kidsT t).length cap := by
  obtain ⟨ps, h1, h2, -⟩ := h
  obtain ⟨ao, cap, h3, -⟩ := h2.shape
  refine ⟨ao, cap, ?_⟩
  rw [h3, rowsK_length, ← h1, List.length_map]
/-- A slice of nodes in memory. -/
structure RdF (d : Nat) (w : World) (B : Nat → Prop) (v : Value) (ps : List (NT d × Value)) : Prop where
  row : RdR 2 w v (rowsK ps)
  blk : ∀ g, v.ownBlock = some g → B g
  kid : ∀ p ∈ ps, Kd d w B p.1 p.2
theorem RdF.kd {d : Nat} {w : World} {B : Nat → Prop} {v : Value} {ps : List (NT d × Value)} (h : RdF d w B v ps) : Kd (d + 1) w B (grpT (ps.map Prod.fst)) v := ⟨ps, rfl, h.row, h.blk, h.kid⟩
theorem Kd.rdF {d : Nat} {w : World} {B : Nat → Prop} {t : NT (d + 1)} {k : Value} (h : Kd (d + 1) w B t k) : ∃ ps : List (NT d × Value), ps.map Prod.fst = kidsT t ∧ RdF d w B k ps := by
  obtain ⟨ps, h1, h2, h3, h4⟩ := h
  exact ⟨ps, h1, h2, h3, h4⟩
theorem RdF.keep {d : Nat} {w w' : World} {B : Nat → Prop} {v : Value} {ps : List (NT d × Value)} (h : RdF d w B v ps) (hk : ∀ g, B g → g < w.heap.size → w'.heap[g]? = w.heap[g]?) (hs : w.heap.size ≤ w'.heap.size) : RdF d w' B v ps :=
  ⟨h.row.keep (fun g hg hl => hk g (h.blk g hg) hl) hs, h.blk, fun p hp => (h.kid p hp).keep hk hs⟩
theorem RdF.aft {d : Nat} {w w' : World} {B : Nat → Prop} {v : Value} {ps : List (NT d × Value)} (h : RdF d w B v ps) (ha : Aft w w') : RdF d w' B v ps := h.keep (fun g _ hl => Below.block ha g hl) (Below.size ha)
theorem RdF.mono {d : Nat} {w : World} {B B' : Nat → Prop} {v : Value} {ps : List (NT d × Value)} (h : RdF d w B v ps) (hB : ∀ g, B g → g < w.heap.size → B' g) : RdF d w B' v ps :=
  ⟨h.row, fun g hg => hB g (h.blk g hg) (h.row.blk g hg), fun p hp => (h.kid p hp).mono hB⟩
theorem RdF.shape {d : Nat} {w : World} {B : Nat → Prop} {v : Value} {ps : List (NT d × Value)} (h : RdF d w B v ps) : ∃ ao cap, v = .slice ao ps.length cap ∧ ps.length ≤ cap ∧ cap ≤ 9223372036854775807 := by
  have := h.row.shape
  rwa [rowsK_length] at this
/-- The node at a place. -/
theorem RdF.at {d : Nat} {w : World} {B : Nat → Prop} {v : Value} {ps : List (NT d × Value)} (h : RdF d w B v ps) {i : Nat} (hi : i < ps.length) (df : NT d × Value) :
    ∃ g o cap, v = .slice (some ⟨g, o, none⟩) ps.length cap ∧ g < w.heap.size ∧ (∀ wx, Aft w wx → wx.rangeAt g (o + i * 2) (ndK (ps.getD i df))) ∧ Kd d w B (ps.getD i df).1 (ps.getD i df).2 := by
  have hi2 : i < (rowsK ps).length := by rw [rowsK_length]; exact hi
  obtain ⟨g, o, cap, h1, -, h3⟩ := h.row.at hi2
  have hm : ps.getD i df ∈ ps := by
    rw [List.getD_eq_getElem?_getD, List.getElem?_eq_getElem hi]
    exact List.getElem_mem hi
  have e : (rowsK ps).getD i [] = ndK (ps.getD i df) := by
    unfold rowsK
    rw [List.getD_eq_getElem?_getD, List.getElem?_map, List.getElem?_eq_getElem hi, List.getD_eq_getElem?_getD, List.getElem?_eq_getElem hi]
    rfl
  rw [rowsK_length] at h1
  refine ⟨g, o, cap, h1, h.row.blk g (by rw [h1]; rfl), fun wx hx => ?_, h.kid _ hm⟩
  rw [← e]
  exact h3 wx hx
theorem rowsK_take {d : Nat} (ps : List (NT d × Value)) (n : Nat) : (rowsK ps).take n = rowsK (ps.take n) := by
  unfold rowsK
  rw [List.map_take]
theorem rowsK_drop {d : Nat} (ps : List (NT d × Value)) (n : Nat) : (rowsK ps).drop n = rowsK (ps.drop n) := by
  unfold rowsK
  rw [List.map_drop]
theorem RdF.to {d : Nat} {w : World} {B : Nat → Prop} {ao : Option Addr} {len cap : Nat} {ps : List (NT d × Value)} (h : RdF d w B (.slice ao len cap) ps) {n c : Nat} (hn : n ≤ ps.length) (hc : n ≤ c) (hc2 : c ≤ cap) : RdF d w B (.slice ao n c) (ps.take n) :=
  ⟨by rw [← rowsK_take]; exact h.row.to (by rw [rowsK_length]; exact hn) hc hc2, fun g hg => h.blk g (by cases ao with | none => cases hg | some a => exact hg), fun p hp => h.kid p (List.mem_of_mem_take hp)⟩
theorem RdF.from {d : Nat} {w : World} {B : Nat → Prop} {ao : Option Addr} {len cap : Nat} {ps : List (NT d × Value)} (h : RdF d w B (.slice ao len cap) ps) {n : Nat} (hn : n ≤ ps.length) : RdF d w B (.slice (if cap = n then ao else ao.map (·.add (n * 2))) (ps.length - n) (cap - n)) (ps.drop n) := by
  have h1 := h.row.from (n := n) (by rw [rowsK_length]; exact hn)
  rw [rowsK_length, rowsK_drop] at h1
  refine ⟨h1, fun g hg => h.blk g ?_, fun p hp => h.kid p (List.mem_of_mem_drop hp)⟩
  cases ao with
  | none => split at hg <;> cases hg
  | some a =>
    split at hg
    · exact hg
    · rw [Option.map_some] at hg
      have e : (a.add (n * 2)).block = a.block := by
        unfold Addr.add
        split <;> rfl
      have : some (a.add (n * 2)).block = some g := hg
      rw [e] at this
      exact this
theorem info_rn : (Try.prog.info? 114).map (fun i => (i.zero, i.size, i.bytes)) = some (some (.agg #[.int .i64 0, .slice none 0 0]), 2, 32) := by kernel_rfl
set_option maxRecDepth 100000 in
theorem run_fromK {ao : Option Addr} {len cap n : Nat} (h : n ≤ len) (wx : World) : (Instr.slice 112 (.slice ao len cap) (some (.int .i64 (n : Int))) none none).run Try.prog wx = .ok (.slice (if cap = n then ao else ao.map (·.add (n * 2))) (len - n) (cap - n)) wx := by
  obtain ⟨i, hi, hz1, hz2, hz3⟩ := info_parts info_rn
  have ht := Try.underlying112
  have he : Try.prog.elem 112 = 114 := by simp [Program.elem, ht]
  have hc : Try.prog.cellsOf 114 = 2 := by simp [Program.cellsOf, hi, hz2]
  rw [run_slice_l wx _ ao len cap (by rw [he]; exact ht) .i64 (n : Int) (by omega) (by omega), he, run_sizeOf wx hi]
  simp only [Result.andThen, sliced, Int.toNat_natCast, hc]
set_option maxRecDepth 100000 in
theorem run_toK {ao : Option Addr} {len cap n : Nat} (h : n ≤ cap) (wx : World) : (Instr.slice 112 (.slice ao len cap) none (some (.int .i64 (n : Int))) none).run Try.prog wx = .ok (.slice ao n cap) wx := by
  obtain ⟨i, hi, hz1, hz2, hz3⟩ := info_parts info_rn
  have := cut_to (P := Try.prog) (ao := ao) (len := len) (cap := cap) (n := n) Try.underlying112 h wx hi
  rw [run_sliceAt_slice wx 112 _ _ _ _ Try.underlying112] at this
  exact this
set_option maxRecDepth 100000 in
theorem run_wholeK {ao : Option Addr} {len cap n : Nat} (h : n ≤ cap) (wx : World) : (Instr.slice 112 (.slice ao len cap) none (some (.int .i64 (n : Int))) (some (.int .i64 (n : Int)))).run Try.prog wx = .ok (.slice ao n n) wx := by
  obtain ⟨i, hi, hz1, hz2, hz3⟩ := info_parts info_rn
  exact cut_whole (P := Try.prog) Try.underlying112 h wx hi
/-- A slice of nodes of one's own. -/
structure OwnF (d : Nat) (w : World) (base : Nat) (B : Nat → Prop) (v : Value) (ps : List (NT d × Value)) : Prop where
  row : OwnR 2 114 w base v (rowsK ps)
  kid : ∀ p ∈ ps, Kd d w B p.1 p.2
theorem OwnF.nil (d : Nat) (w : World) (base : Nat) (B : Nat → Prop) : OwnF d w base B (.slice none 0 0) [] := ⟨OwnR.nil _ _ _ _, fun p hp => by cases hp⟩
theorem OwnF.rd {d : Nat} {w : World} {base : Nat} {B : Nat → Prop} {v : Value} {ps : List (NT d × Value)} (h : OwnF d w base B v ps) : RdF d w (fun g => B g ∨ v.ownBlock = some g) v ps :=
  ⟨h.row.rd, fun _ hg => .inr hg, fun p hp => (h.kid p hp).mono fun _ hg _ => .inl hg⟩
theorem OwnF.keep {d : Nat} {w w' : World} {base : Nat} {B : Nat → Prop} {v : Value} {ps : List (NT d × Value)} (h : OwnF d w base B v ps) (h1 : ∀ g, v.ownBlock = some g → w'.heap[g]? = w.heap[g]?) (hk : ∀ g, B g → g < w.heap.size → w'.heap[g]? = w.heap[g]?) (hs : w.heap.size ≤ w'.heap.size) : OwnF d w' base B v ps :=
  ⟨h.row.keep h1, fun p hp => (h.kid p hp).keep hk hs⟩
theorem OwnF.aft {d : Nat} {w w' : World} {base : Nat} {B : Nat → Prop} {v : Value} {ps : List (NT d × Value)} (h : OwnF d w base B v ps) (ha : Aft w w') : OwnF d w' base B v ps :=
  h.keep (fun g hg => Below.block ha g (h.row.lt g hg).2) (fun g _ hl => Below.block ha g hl) (Below.size ha)
theorem OwnF.shape {d : Nat} {w : World} {base : Nat} {B : Nat → Prop} {v : Value} {ps : List (NT d × Value)} (h : OwnF d w base B v ps) : ∃ ao cap, v = .slice ao ps.length cap := by
  have := h.row.shape
  rwa [rowsK_length] at this
theorem OwnF.monoB {d : Nat} {w : World} {base : Nat} {B B' : Nat → Prop} {v : Value} {ps : List (NT d × Value)} (h : OwnF d w base B v ps) (hB : ∀ g, B g → g < w.heap.size → B' g) : OwnF d w base B' v ps :=
  ⟨h.row, fun p hp => (h.kid p hp).mono hB⟩
theorem rowsK_append {d : Nat} (ps qs : List (NT d × Value)) : rowsK (ps ++ qs) = rowsK ps ++ rowsK qs := List.map_append ..
section
variable {ops : Array Oper} {rest : List Oper} {o : Oper} {a : Act} {w : World} {Q : Exit → Act → World → Prop}
/-- Nodes behind nodes of one's own; B: where what is below all of them lies, apart from the row. -/
theorem wpList_appK {d : Nat} (hgd : o.guard = none) (s x : Operand) (ho : o.op = .call { callee := .builtin .append, args := #[s, x], argTypes := #[112, 112] }) (base : Nat) (B : Nat → Prop) (v : Value) (ps : List (NT d × Value)) (hs : a.eval s = v) (hown : OwnF d w base B v ps) (hBv : ∀ g, v.ownBlock = some g → ¬ B g)
    (vx : Value) (qs : List (NT d × Value)) (hx : a.eval x = vx) (hr : RdR 2 w vx (rowsK qs)) (hq : ∀ p ∈ qs, Kd d w B p.1 p.2) (hl : ps.length + qs.length ≤ 1000000) (hb : base ≤ w.heap.size)
    (h : ∀ v' w', Hid (OwnF d w' base (fun g => B g ∧ g < w.heap.size) v' (ps ++ qs)) → Hid (Fr (fun b => v.ownBlock = some b) w w') → Hid (∀ g, v'.ownBlock = some g → v.ownBlock = some g ∨ g = w.heap.size) → wpList Try.prog ops Q rest (a.put o.dst v') w') : wpList Try.prog ops Q (o :: rest) a w := by
  obtain ⟨i0, hi0, hz1, hz2, hz3⟩ := info_parts info_rn
  have key : ∀ v' w', w'.ownsRow base 114 2 v' (ps.length + qs.length) ((rowsK ps).flatten ++ (rowsK qs).flatten) → w.grownBy w' v.ownBlock → (∀ g, v'.ownBlock = some g → v.ownBlock = some g ∨ g = w.heap.size) → wpList Try.prog ops Q rest (a.put o.dst v') w' := by
    intro v' w' k1 k2 k3
    have hf : Fr (fun b => v.ownBlock = some b) w w' := Fr.of_grown k2 fun k hk => hk
    have hkp : ∀ p ∈ ps ++ qs, Kd d w B p.1 p.2 := fun p hp => by
      rcases List.mem_append.1 hp with hp | hp
      · exact hown.kid p hp
      · exact hq p hp
    refine h v' w' (Lib.hid ⟨⟨?_, ?_⟩, fun p hp => ?_⟩) (Lib.hid hf) (Lib.hid k3)
    · rw [rowsK_append]
      exact hown.row.1.append hr.1
    · rw [rowsK_length, List.length_append, rowsK_append, List.flatten_append]
      exact k1
    · exact ((hkp p hp).mono fun _ hg hl => ⟨hg, hl⟩).keep (fun g hg hl => hf.block g hl fun e => hBv g e hg.1) hf.size
  have hro := hown.row.2
  rw [rowsK_length] at hro
  rcases hr.2 with ⟨rfl, hnil⟩ | ⟨g, og, cap, rfl, h2, h3, h4, h5⟩
  · have hqn : qs = [] := List.map_eq_nil_iff.1 hnil
    subst hqn
    refine wpList_append_own_none hgd s x 112 ho base 114 i0 2 Try.underlying112 hi0 v _ _ hs hro hx ?_
    refine key v w ?_ ⟨rfl, rfl, rfl, Nat.le_refl _, fun _ _ _ => rfl⟩ (fun g hg => .inl hg)
    show w.ownsRow base _ 2 v ps.length ((rowsK ps).flatten ++ [])
    rw [List.append_nil]
    exact hro
  · have hnl : (rowsK qs).flatten.length = qs.length * 2 := by rw [rows_length hr.1, rowsK_length]
    rw [rowsK_length] at hx
    refine wpList_append_own_at w hgd s x 112 ho base 114 i0 _ 2 32 Try.underlying112 hi0 hz1 hz2 hz3 rfl (by decide) v ps.length (rowsK ps).flatten hs hro ⟨g, og, none⟩ qs.length cap (rowsK qs).flatten hx hnl
      (RdR.cells (len := (rowsK qs).length) hr) (rows_one hr.1) (by unfold maxLen; omega) (by omega) hb ?_
    intro v' w' k1 k2 k3 k4
    refine key v' w' k1 k2 fun g' hg => ?_
    rcases k4 with e | e
    · exact .inl (e ▸ hg)
    · rw [e] at hg
      exact .inr (Option.some.inj hg).symm
end
end Go.Proofs.Ytfgammcefaomeaa
