/- Slices of structs, whatever they are: rows of cells, each of so many. -/
import Derived.Test.YtpnckphfjcnooaaTKit
import Derived.Deep.MidRow
import Derived.Deep.AppendLies
namespace Go.Proofs.Ytpnckphfjcnooaa
open Go Go.RowKit
/-- Each row has so many cells. -/
def Row (sz : Nat) (rs : List (List Value)) : Prop := ∀ r ∈ rs, r.length = sz ∧ ∀ u ∈ r, u.oneCell' = true
theorem Row.nil (sz : Nat) : Row sz [] := fun r h => by simp at h
theorem Row.append {sz : Nat} {rs qs : List (List Value)} (h : Row sz rs) (k : Row sz qs) : Row sz (rs ++ qs) := fun r hr => by
  rcases List.mem_append.1 hr with hr | hr
  · exact h r hr
  · exact k r hr
theorem Row.one {sz : Nat} {r : List Value} (h : r.length = sz) (h1 : ∀ u ∈ r, u.oneCell' = true) : Row sz [r] := fun q hq => by
  rw [List.mem_singleton.1 hq]
  exact ⟨h, h1⟩
theorem Row.at {sz : Nat} {rs : List (List Value)} (h : Row sz rs) {i : Nat} (hi : i < rs.length) : (rs.getD i []).length = sz ∧ ∀ u ∈ rs.getD i [], u.oneCell' = true := by
  rw [List.getD_eq_getElem?_getD, List.getElem?_eq_getElem hi]
  exact h _ (List.getElem_mem hi)
theorem rows_length : ∀ {sz : Nat} {rs : List (List Value)}, Row sz rs → rs.flatten.length = rs.length * sz
  | _, [], _ => by simp
  | sz, r :: rs, h => by
    rw [List.flatten_cons, List.length_append, (h r (by simp)).1, rows_length fun x hx => h x (by simp [hx]), List.length_cons, Nat.add_mul, Nat.one_mul]
    omega
theorem rows_at : ∀ {sz : Nat} {rs : List (List Value)}, Row sz rs → ∀ i j, i < rs.length → j < sz → rs.flatten[i * sz + j]? = (rs.getD i [])[j]?
  | _, [], _, i, j, hi, _ => by simp at hi
  | sz, r :: rs, h, 0, j, _, hj => by
    rw [List.flatten_cons, Nat.zero_mul, Nat.zero_add, List.getElem?_append_left (by rw [(h r (by simp)).1]; exact hj)]
    rfl
  | sz, r :: rs, h, i + 1, j, hi, hj => by
    have h1 := (h r (by simp)).1
    rw [List.flatten_cons, List.getElem?_append_right (by rw [h1, Nat.add_mul]; omega), h1, show (i + 1) * sz + j - sz = i * sz + j by rw [Nat.add_mul]; omega, rows_at (fun x hx => h x (by simp [hx])) i j (by simpa using hi) hj]
    rfl
theorem rows_one {sz : Nat} {rs : List (List Value)} (h : Row sz rs) : ∀ u ∈ rs.flatten, u.oneCell' = true := by
  intro u hu
  obtain ⟨l, hl, hm⟩ := List.mem_flatten.1 hu
  exact (h l hl).2 u hm
/-- A slice of structs reads as rows. -/
def RdR (sz : Nat) (w : World) (v : Value) (rs : List (List Value)) : Prop :=
  Row sz rs ∧ ((v = .slice none 0 0 ∧ rs = []) ∨ ∃ g o cap, v = .slice (some ⟨g, o, none⟩) rs.length cap ∧ rs.length ≤ cap ∧ cap ≤ 9223372036854775807 ∧ g < w.heap.size ∧ ∀ i, i < rs.length → w.rangeAt g (o + i * sz) (rs.getD i []))
theorem RdR.nil (sz : Nat) (w : World) : RdR sz w (.slice none 0 0) [] := ⟨Row.nil sz, .inl ⟨rfl, rfl⟩⟩
theorem RdR.grow {sz : Nat} {w w' : World} {v : Value} {rs : List (List Value)} (h : RdR sz w v rs) (hb : Aft w w') : RdR sz w' v rs := by
  refine ⟨h.1, ?_⟩
  rcases h.2 with h | ⟨g, o, cap, h1, h2, h3, h4, h5⟩
  · exact .inl h
  · exact .inr ⟨g, o, cap, h1, h2, h3, Nat.lt_of_lt_of_le h4 hb.size, fun i hi j u hu => (Below.cell hb (p := ⟨g, o + i * sz + j, none⟩) h4).trans (h5 i hi j u hu)⟩
theorem RdR.shape {sz : Nat} {w : World} {v : Value} {rs : List (List Value)} (h : RdR sz w v rs) : ∃ ao cap, v = .slice ao rs.length cap ∧ rs.length ≤ cap ∧ cap ≤ 9223372036854775807 := by
  rcases h.2 with ⟨rfl, rfl⟩ | ⟨g, o, cap, h1, h2, h3, -⟩
  · exact ⟨none, 0, rfl, Nat.le_refl _, by omega⟩
  · exact ⟨_, cap, h1, h2, h3⟩
theorem RdR.at {sz : Nat} {w : World} {v : Value} {rs : List (List Value)} (h : RdR sz w v rs) {i : Nat} (hi : i < rs.length) :
    ∃ g o cap, v = .slice (some ⟨g, o, none⟩) rs.length cap ∧ (rs.getD i []).length = sz ∧ (∀ wx, Aft w wx → wx.rangeAt g (o + i * sz) (rs.getD i [])) := by
  rcases h.2 with ⟨rfl, rfl⟩ | ⟨g, o, cap, h1, h2, h3, h4, h5⟩
  · simp at hi
  · exact ⟨g, o, cap, h1, (h.1.at hi).1, fun wx hx j u hu => (Below.cell hx (p := ⟨g, o + i * sz + j, none⟩) h4).trans (h5 i hi j u hu)⟩
/-- A slice of structs of one's own. -/
def OwnR (sz : Nat) (t : TypeId) (w : World) (base : Nat) (v : Value) (rs : List (List Value)) : Prop := Row sz rs ∧ w.ownsRow base t sz v rs.length rs.flatten
theorem OwnR.nil (sz : Nat) (t : TypeId) (w : World) (base : Nat) : OwnR sz t w base (.slice none 0 0) [] := ⟨Row.nil sz, World.ownsRow_nil w base t sz⟩
theorem OwnR.lt {sz : Nat} {t : TypeId} {w : World} {base : Nat} {v : Value} {rs : List (List Value)} (h : OwnR sz t w base v rs) : ∀ g, v.ownBlock = some g → base ≤ g ∧ g < w.heap.size := h.2.lt
theorem OwnR.keep {sz : Nat} {t : TypeId} {w w' : World} {base : Nat} {v : Value} {rs : List (List Value)} (h : OwnR sz t w base v rs) (hk : ∀ g, v.ownBlock = some g → w'.heap[g]? = w.heap[g]?) : OwnR sz t w' base v rs := by
  refine ⟨h.1, h.2.1, ?_⟩
  rcases h.2.2 with hn | ⟨g, cap, cur, rfl, hb, hg, hr⟩
  · exact .inl hn
  · exact .inr ⟨g, cap, cur, rfl, hb, (hk g rfl).trans hg, hr⟩
theorem OwnR.aft {sz : Nat} {t : TypeId} {w w' : World} {base : Nat} {v : Value} {rs : List (List Value)} (h : OwnR sz t w base v rs) (ha : Aft w w') : OwnR sz t w' base v rs := h.keep fun g hg => ha.block g (h.lt g hg).2
theorem OwnR.mono {sz : Nat} {t : TypeId} {w : World} {base base' : Nat} {v : Value} {rs : List (List Value)} (h : OwnR sz t w base v rs) (hb : base' ≤ base) : OwnR sz t w base' v rs := ⟨h.1, ownsRow_mono h.2 hb⟩
theorem OwnR.shape {sz : Nat} {t : TypeId} {w : World} {base : Nat} {v : Value} {rs : List (List Value)} (h : OwnR sz t w base v rs) : ∃ ao cap, v = .slice ao rs.length cap := own_shape h.2
theorem OwnR.rd {sz : Nat} {t : TypeId} {w : World} {base : Nat} {v : Value} {rs : List (List Value)} (h : OwnR sz t w base v rs) : RdR sz w v rs := by
  refine ⟨h.1, ?_⟩
  rcases h.2.2 with ⟨rfl, hn⟩ | ⟨g, cap, cur, rfl, hb, hg, hn, hm, hc, ht⟩
  · exact .inl ⟨rfl, List.eq_nil_of_length_eq_zero hn⟩
  · refine .inr ⟨g, 0, cap, rfl, hn, by simpa [maxLen] using hm, heap_lt hg, fun i hi j u hu => ?_⟩
    have hj : j < sz := by
      have := (List.getElem?_eq_some_iff.1 hu).1
      rwa [(h.1.at hi).1] at this
    have hr := rows_at h.1 i j hi hj
    have := h.2.cells (g := g) rfl (i * sz + j) u (hr.trans hu)
    rw [Addr.add_lit] at this
    rwa [Nat.add_assoc]
/-- A block of another type is none of its own. -/
theorem OwnR.off {sz : Nat} {t : TypeId} {w : World} {base g g' t' : Nat} {v : Value} {rs : List (List Value)} {cs : Array Value} {fr : Nat × Nat} (h : OwnR sz t w base v rs) (hg : w.heap[g]? = some (.cells cs t' fr)) (ht : t' ≠ t) (hv : v.ownBlock = some g') : g' ≠ g := by
  rcases h.2.2 with ⟨rfl, -⟩ | ⟨b, cap, cur, rfl, -, hb, -⟩
  · cases hv
  · cases hv
    rintro rfl
    have h1 : b = Addr.block ⟨b, 0, none⟩ := rfl
    rw [← h1] at hg
    rw [hb] at hg
    cases hg
    exact ht rfl
section
variable {P : Program} {ops : Array Oper} {rest : List Oper} {o : Oper} {a : Act} {w : World} {Q : Exit → Act → World → Prop}
/-- A whole struct out of the middle of a block. -/
theorem wpList_load_mid2 (hw : Region.wanted o (yielded ops a.tmps) = true) (ty : TypeId) (x : Operand) (ho : o.op = .load ty x) (b q : Nat) (hx : a.eval x = .pointer (some ⟨b, q, none⟩)) (r : List Value) (hr : w.rangeAt b q r) (d : TypeDesc) (hu : P.underlying ty = some d) (hd : d.isRow = true) (hi : (P.info? ty).map (·.size) = some r.length)
    (h : wpList P ops Q rest (a.put o.dst (.agg r.toArray)) w) : wpList P ops Q (o :: rest) a w := by
  unfold wpList
  rw [if_pos hw]
  refine .inl (wp_noOut ?_)
  unfold Oper.wp execOp
  simp only [ho, hx, run_loadAt_mid w b q ty r d hr hu hd hi, Sem.run_bind, Result.andThen_ok, Sem.run_pure]
  exact h
end
end Go.Proofs.Ytpnckphfjcnooaa
