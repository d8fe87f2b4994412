/- Slices that read as lists, one cell an element: what keeps them, how they are cut, and the law on append from such a slice. Of whatever program. -/
import Derived.Test.YtifehfcgmodmaaaDoorKit
import Derived.Laws.AppendOwnNone
namespace Go.Proofs.YtifehfcgmodmaaaDoor
open Go Go.RowKit

/-- The ending is a return of a value of which Q holds. -/
def Returns (Q : Value → World → Prop) (e : Ending) (w : World) : Prop := ∃ v, e = .returned v ∧ Q v w
theorem Returns.mk {Q : Value → World → Prop} {v : Value} {w : World} (h : Q v w) : Returns Q (.returned v) w := ⟨v, rfl, h⟩

/-- The slice value v reads as xs. -/
def Rd (w : World) (v : Value) (xs : List Value) : Prop :=
  ∃ ao cap, v = .slice ao xs.length cap ∧ xs.length ≤ cap ∧ cap ≤ 9223372036854775807 ∧ (ao = none → cap = 0) ∧ ∀ ad, ao = some ad → ∀ j u, xs[j]? = some u → w.cell? (ad.add j) = some u
theorem Addr.block_add (a : Addr) (n : Nat) : (a.add n).block = a.block := by unfold Addr.add; split <;> rfl
theorem Rd.keep {w w' : World} {v : Value} {xs : List Value} (h : Rd w v xs) (hk : ∀ g, v.ownBlock = some g → xs ≠ [] → g < w.heap.size → w'.heap[g]? = w.heap[g]?) : Rd w' v xs := by
  obtain ⟨ao, cap, rfl, h1, h2, h3, h4⟩ := h
  refine ⟨ao, cap, rfl, h1, h2, h3, fun ad ha j u hu => ?_⟩
  subst ha
  have hc := h4 ad rfl j u hu
  have hlt := World.block_lt_of_cell? w _ hc
  rw [Addr.block_add] at hlt
  rw [World.cell?_of_block (w := w) (by rw [Addr.block_add]; exact hk ad.block rfl (fun e => by simp [e] at hu) hlt)]
  exact hc
theorem Rd.grow {w w' : World} {v : Value} {xs : List Value} (h : Rd w v xs) (hb : Below w.heap.size w w') : Rd w' v xs := h.keep fun g _ _ hg => hb.block g hg
theorem Rd.below {w w' : World} {v : Value} {xs : List Value} (h : Rd w v xs) {k : Nat} (hb : Below k w w') (hk : ∀ g, v.ownBlock = some g → xs ≠ [] → g < k) : Rd w' v xs := h.keep fun g hg hx _ => hb.block g (hk g hg hx)
theorem Rd.grown {w w' : World} {v : Value} {xs : List Value} (h : Rd w v xs) {row : Option Nat} (hg : w.grownBy w' row) (hne : ∀ g, v.ownBlock = some g → xs ≠ [] → some g ≠ row) : Rd w' v xs := h.keep fun g hv hx hlt => hg.block g hlt (hne g hv hx)
theorem Rd.setCell {w : World} {v : Value} {xs : List Value} (h : Rd w v xs) {p : Addr} (hne : ∀ g, v.ownBlock = some g → xs ≠ [] → g ≠ p.block) (u : Value) : Rd (w.setCell p u) v xs := h.keep fun g hv hx _ => Below.heap_setCell _ _ _ _ (hne g hv hx)
theorem Rd.lt {w : World} {v : Value} {xs : List Value} (h : Rd w v xs) {g : Nat} (hg : v.ownBlock = some g) (hx : xs ≠ []) : g < w.heap.size := by
  obtain ⟨ao, cap, rfl, h1, h2, h3, h4⟩ := h
  cases ao with
  | none => cases hg
  | some ad =>
    simp only [Value.ownBlock, Option.some.injEq] at hg
    subst hg
    cases xs with
    | nil => exact absurd rfl hx
    | cons x xs =>
      have := World.block_lt_of_cell? w _ (h4 ad rfl 0 x rfl)
      rwa [Addr.block_add] at this
theorem Rd.nil (w : World) : Rd w (.slice none 0 0) [] := ⟨none, 0, rfl, Nat.le_refl _, by omega, fun _ => rfl, fun _ h => by cases h⟩
theorem Rd.at {w : World} {v : Value} {xs : List Value} (h : Rd w v xs) (hx : 0 < xs.length) : ∃ g o cap, v = .slice (some ⟨g, o, none⟩) xs.length cap ∧ xs.length ≤ cap ∧ cap ≤ 9223372036854775807 ∧ g < w.heap.size ∧ ∀ j u, xs[j]? = some u → w.cell? ⟨g, o + j, none⟩ = some u := by
  obtain ⟨ao, cap, rfl, h1, h2, h3, h4⟩ := h
  cases ao with
  | none => have := h3 rfl; omega
  | some ad =>
    obtain ⟨g, o, spot⟩ := ad
    have hc := h4 _ rfl 0 _ (List.getElem?_eq_getElem hx)
    have hs : spot = none := by
      cases spot with
      | none => rfl
      | some b =>
        simp only [Addr.add, if_true, World.cell?] at hc
        split at hc <;> simp at hc
    subst hs
    refine ⟨g, o, cap, rfl, h1, h2, ?_, fun j u hu => ?_⟩
    · have := World.block_lt_of_cell? w _ hc; rwa [Addr.block_add] at this
    · have := h4 _ rfl j u hu; rwa [Addr.add_lit] at this
theorem Rd.of_own {w : World} {base e : Nat} {v : Value} {n : Nat} {xs : List Value} (h : w.ownsRow base e 1 v n xs) : Rd w v xs := by
  have hl : xs.length = n := by simpa using h.1
  rcases h.2 with ⟨rfl, rfl⟩ | ⟨g, cap, cur, rfl, _, hg, hn, hm, hc, ht⟩
  · have : xs = [] := List.eq_nil_of_length_eq_zero hl
    subst this
    exact Rd.nil w
  · refine ⟨some ⟨g, 0, none⟩, cap, by rw [hl], by omega, by simpa [maxLen] using hm, fun he => (by cases he), fun ad ha j u hu => ?_⟩
    cases ha
    exact h.cells rfl j u hu
theorem ownsRow_mono {w : World} {base base' e size : Nat} {v : Value} {n : Nat} {xs : List Value} (h : w.ownsRow base e size v n xs) (hb : base' ≤ base) : w.ownsRow base' e size v n xs := by
  refine ⟨h.1, ?_⟩
  rcases h.2 with h | ⟨g, cap, cur, h1, h2, h3⟩
  · exact .inl h
  · exact .inr ⟨g, cap, cur, h1, Nat.le_trans hb h2, h3⟩
theorem ownsRow_below {w w' : World} {base e size : Nat} {v : Value} {n : Nat} {xs : List Value} (h : w.ownsRow base e size v n xs) (hk : ∀ g, v.ownBlock = some g → w'.heap[g]? = w.heap[g]?) : w'.ownsRow base e size v n xs := by
  refine ⟨h.1, ?_⟩
  rcases h.2 with h | ⟨g, cap, cur, rfl, h2, h3, h4⟩
  · exact .inl h
  · exact .inr ⟨g, cap, cur, rfl, h2, by rw [hk g rfl]; exact h3, h4⟩
/-- Cut off ahead: 's[k:]' as the walk writes it, for a slice that is not empty. -/
theorem Rd.drop {w : World} {g o cap : Nat} {xs : List Value} (h : Rd w (.slice (some ⟨g, o, none⟩) xs.length cap) xs) {k : Nat} (hk : k ≤ xs.length) (ao : Option Addr) (hao : ¬ cap = k → ao = some ⟨g, o + k, none⟩) :
    Rd w (.slice ao (xs.length - k) (cap - k)) (xs.drop k) := by
  obtain ⟨ao', cap', hv, h1, h2, h3, h4⟩ := h
  cases hv
  refine ⟨ao, cap - k, by rw [List.length_drop], by rw [List.length_drop]; omega, by omega, fun e => ?_, fun ad ha j u hu => ?_⟩
  · by_cases hc : cap = k
    · omega
    · rw [hao hc] at e; cases e
  · rw [List.getElem?_drop] at hu
    have hj : k + j < xs.length := (List.getElem?_eq_some_iff.1 hu).1
    rw [hao (by omega)] at ha
    cases ha
    have := h4 _ rfl (k + j) u hu
    rw [Addr.add_lit] at this ⊢
    rwa [Nat.add_assoc]
/-- Cut off behind: 's[:k]'. -/
theorem Rd.take {w : World} {g o cap : Nat} {xs : List Value} (h : Rd w (.slice (some ⟨g, o, none⟩) xs.length cap) xs) {k : Nat} (hk : k ≤ xs.length) :
    Rd w (.slice (some ⟨g, o, none⟩) k cap) (xs.take k) := by
  obtain ⟨ao', cap', hv, h1, h2, h3, h4⟩ := h
  cases hv
  refine ⟨_, cap, by rw [List.length_take, Nat.min_eq_left hk], by rw [List.length_take]; omega, h2, fun e => (by cases e), fun ad ha j u hu => ?_⟩
  cases ha
  refine h4 _ rfl j u ?_
  rw [List.getElem?_take] at hu
  split at hu
  · exact hu
  · cases hu

theorem Rd.none_nil {w : World} {n c : Nat} {xs : List Value} (h : Rd w (.slice none n c) xs) : xs = [] := by
  obtain ⟨ao, cap, hv, h1, _, h3, _⟩ := h
  cases hv
  have := h3 rfl
  exact List.eq_nil_of_length_eq_zero (by omega)
theorem Rd.none_zero {w : World} {n c : Nat} {xs : List Value} (h : Rd w (.slice none n c) xs) : xs = [] ∧ c = 0 := by
  obtain ⟨ao, cap, hv, h1, _, h3, _⟩ := h
  cases hv
  have := h3 rfl
  exact ⟨List.eq_nil_of_length_eq_zero (by omega), this⟩
/-- 'append(s, x...)', s nil or the call's own, x a slice that reads as a list. -/
theorem wpList_append_rd {P : Program} {w : World} {ops : Array Oper} {rest : List Oper} {o : Oper} {a : Act} {Q : Exit → Act → World → Prop} (hgd : o.guard = none) (s x : Operand) (t : TypeId)
    (ho : o.op = .call { callee := .builtin .append, args := #[s, x], argTypes := #[t, t] })
    (base : Nat) (e : TypeId) (z : Value) (bytes : Nat) (ht : P.underlying t = some (.slice e)) (hinfo : (P.info? e).map (fun i => (i.zero, i.size, i.bytes)) = some (some z, 1, bytes)) (hzs : z.cells.size = 1)
    (v vx : Value) (xs news : List Value) (hs : a.eval s = v) (hx : a.eval x = vx) (hown : w.ownsRow base e 1 v xs.length xs) (hrd : Rd w vx news) (h1 : ∀ u ∈ news, u.oneCell' = true)
    (hbytes : (xs.length + news.length) * bytes ≤ 140737488355328) (hlen : xs.length + news.length ≤ 140737488355328) (hbase : base ≤ w.heap.size)
    (h : ∀ v' w', w'.ownsRow base e 1 v' (xs ++ news).length (xs ++ news) → w.grownBy w' v.ownBlock → (v' = .slice none 0 0 ↔ v = .slice none 0 0 ∧ news = []) → wpList P ops Q rest (a.put o.dst v') w') : wpList P ops Q (o :: rest) a w := by
  obtain ⟨i, hi, hz1, hz2, hz3⟩ := info_parts hinfo
  obtain ⟨ao, cap, rfl, r1, r2, r3, r4⟩ := hrd
  have hnl : (news.length = 0) ↔ news = [] := List.length_eq_zero_iff
  cases ao with
  | none =>
    have hc := r3 rfl
    have hn : news = [] := hnl.1 (by omega)
    subst hn hc
    refine wpList_append_own_none hgd s x t ho base e i 1 ht hi v _ xs hs hown hx ?_
    exact h v w (by simpa using hown) ⟨rfl, rfl, rfl, Nat.le_refl _, fun _ _ _ => rfl⟩ (by simp)
  | some ad =>
    refine wpList_append_own w hgd s x t ho base e i z 1 bytes ht hi hz1 hz2 hz3 hzs (by omega) v _ xs hs hown ad news.length cap news hx (by simp) (r4 ad rfl) h1 (by unfold maxLen; omega) hbytes hbase ?_
    intro v' w' k1 k2 k3
    exact h v' w' (by rw [List.length_append]; exact k1) k2 (by rw [k3, hnl])
/-- The ending is a return of a slice of n elements of which Q holds. -/
def RetSl (n : Nat) (Q : Value → World → Prop) (e : Ending) (w : World) : Prop := ∃ ao cap, e = .returned (.slice ao n cap) ∧ Q (.slice ao n cap) w
theorem own_shape {w : World} {base e size : Nat} {v : Value} {n : Nat} {xs : List Value} (h : w.ownsRow base e size v n xs) : ∃ ao cap, v = .slice ao n cap := by
  rcases h.2 with ⟨rfl, rfl⟩ | ⟨g, cap, cur, rfl, _⟩
  · exact ⟨none, 0, rfl⟩
  · exact ⟨_, cap, rfl⟩
theorem RetSl.of_own {n : Nat} {Q : Value → World → Prop} {e : Ending} {w : World} {base el size : Nat} {xs : List Value} (h : Returns Q e w) (ho : ∀ v w, Q v w → w.ownsRow base el size v n xs) : RetSl n Q e w := by
  obtain ⟨v, rfl, hq⟩ := h
  obtain ⟨ao, cap, rfl⟩ := own_shape (ho v w hq)
  exact ⟨ao, cap, rfl, hq⟩
/-- Of what was there only blocks of S may have turned. -/
structure Fr (S : Nat → Prop) (w w' : World) : Prop where
  os : w'.os = w.os
  tape : w'.tape = w.tape
  output : w'.output = w.output
  size : w.heap.size ≤ w'.heap.size
  block : ∀ k, k < w.heap.size → ¬ S k → w'.heap[k]? = w.heap[k]?
theorem Fr.refl (S : Nat → Prop) (w : World) : Fr S w w := ⟨rfl, rfl, rfl, Nat.le_refl _, fun _ _ _ => rfl⟩
theorem Fr.trans {S : Nat → Prop} {a b c : World} (h : Fr S a b) (k : Fr S b c) : Fr S a c :=
  ⟨k.os.trans h.os, k.tape.trans h.tape, k.output.trans h.output, Nat.le_trans h.size k.size, fun i hi hn => (k.block i (Nat.lt_of_lt_of_le hi h.size) hn).trans (h.block i hi hn)⟩
theorem Fr.mono {S S' : Nat → Prop} {w w' : World} (h : Fr S w w') (hs : ∀ k, k < w.heap.size → S k → S' k) : Fr S' w w' := ⟨h.os, h.tape, h.output, h.size, fun k hk hn => h.block k hk fun hh => hn (hs k hk hh)⟩
theorem Fr.of_below {S : Nat → Prop} {w w' : World} (h : Below w.heap.size w w') : Fr S w w' := ⟨h.os, h.tape, h.output, h.size, fun k hk _ => h.block k hk⟩
theorem Fr.of_grown {S : Nat → Prop} {w w' : World} {row : Option Nat} (h : w.grownBy w' row) (hs : ∀ k, row = some k → S k) : Fr S w w' := ⟨h.os, h.tape, h.output, h.size, fun k hk hn => h.block k hk fun e => hn (hs k e.symm)⟩
theorem Fr.drew {S : Nat → Prop} {a w : World} (h : Fr S a w) : Fr S a w.drew := ⟨h.os, h.tape, h.output, h.size, h.block⟩
theorem Fr.drewN {S : Nat → Prop} {a w : World} (h : Fr S a w) (n : Nat) : Fr S a (w.drewN n) := ⟨h.os, h.tape, h.output, h.size, h.block⟩
theorem Fr.setCell {S : Nat → Prop} {a w : World} (h : Fr S a w) {p : Addr} (hp : S p.block) (u : Value) : Fr S a (w.setCell p u) :=
  h.trans ⟨rfl, rfl, rfl, by simp [World.setCell], fun k _ hn => Below.heap_setCell _ _ _ _ (fun e => hn (e ▸ hp))⟩
theorem Fr.alloc {S : Nat → Prop} {a w : World} (h : Fr S a w) (o : Obj) : Fr S a (w.alloc o) := h.trans (Fr.of_below ((Below.refl _ _).alloc (Nat.le_refl _) _))
theorem Fr.below {S : Nat → Prop} {w w' : World} (h : Fr S w w') {B : Nat} (hB : B ≤ w.heap.size) (hs : ∀ k, S k → B ≤ k) : Below B w w' :=
  ⟨h.os, h.tape, h.output, h.size, fun k hk => h.block k (by omega) fun hh => by have := hs k hh; omega⟩
theorem Rd.fr {w w' : World} {v : Value} {xs : List Value} (h : Rd w v xs) {S : Nat → Prop} (hf : Fr S w w') (hn : ∀ g, v.ownBlock = some g → xs ≠ [] → ¬ S g) : Rd w' v xs := h.keep fun g hg hx hlt => hf.block g hlt (hn g hg hx)
theorem own_lt {w : World} {base e size : Nat} {v : Value} {n : Nat} {xs : List Value} (h : w.ownsRow base e size v n xs) {g : Nat} (hg : v.ownBlock = some g) : base ≤ g ∧ g < w.heap.size := h.lt g hg
theorem ownsRow_fr {w w' : World} {base e size : Nat} {v : Value} {n : Nat} {xs : List Value} (h : w.ownsRow base e size v n xs) {S : Nat → Prop} (hf : Fr S w w') (hn : ∀ g, v.ownBlock = some g → ¬ S g) : w'.ownsRow base e size v n xs :=
  ownsRow_below h fun g hg => hf.block g (own_lt h hg).2 (hn g hg)
theorem rowIs_fr {w w' : World} {b t n : Nat} {f : Nat → Value} (h : w.rowIs b t n f) {S : Nat → Prop} (hf : Fr S w w') (hn : ¬ S b) : w'.rowIs b t n f := h.of_block (hf.block b h.lt hn)
end Go.Proofs.YtifehfcgmodmaaaDoor
