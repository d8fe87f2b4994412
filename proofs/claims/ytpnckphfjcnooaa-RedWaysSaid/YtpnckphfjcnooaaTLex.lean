/- Small laws of walks, of no one's numbers: out of the ratchet's texts. -/
import Derived.Test.YtpnckphfjcnooaaEnter
import Derived.Test.YtpnckphfjcnooaaLed
import Derived.Test.YtpnckphfjcnooaaLexG
import Derived.Test.YtpnckphfjcnooaaMany
import Derived.Test.YtpnckphfjcnooaaA8
namespace Go.Proofs.Ytpnckphfjcnooaa
open Go Go.RowKit
section
variable {P : Program} {ops : Array Oper} {C : World → Prop} {E : Nat → Bool} {Q : Exit → Act → World → Prop} {n k : Nat} {o : Oper} {l : List Oper} {a : Act} {w : World}
theorem lx_val (hE : E k = false) (hw : Region.wanted o (yielded ops a.tmps) = true) (v : Value) (hv : ∀ w', C w' → (execOp a.eval o).run P w' = .ok (.value v) w') (h : wpLx P ops C E Q n (k + 1) l (a.put o.dst v) w) : wpLx P ops C E Q (n + 1) k (o :: l) a w := by
  simp only [wpLx, stepL, hw, if_true, hE]
  exact ⟨v, fun w' hw' => .inl (hv w' hw'), h⟩
end
theorem lx_bin {P : Program} {ops : Array Oper} {C : World → Prop} {E : Nat → Bool} {Q : Exit → Act → World → Prop} {n k : Nat} {o : Oper} {l : List Oper} {a : Act} {w : World} (hE : E k = false) (hw : Region.wanted o (yielded ops a.tmps) = true) (op : BinOp) (t t2 : TypeId) (x y : Operand) (ho : o.op = .binOp op t x y t2)
    (vx vy v : Value) (hx : a.eval x = vx) (hy : a.eval y = vy) (hr : ∀ w1, (Go.binOp op t vx vy).run P w1 = .ok v w1) (hg : ∀ w1, (eqGuard op t x y vx vy).run P w1 = .ok () w1) (h : wpLx P ops C E Q n (k + 1) l (a.put o.dst v) w) : wpLx P ops C E Q (n + 1) k (o :: l) a w := by
  refine lx_val hE hw v (fun w' _ => ?_) h
  unfold execOp
  simp only [ho, hx, hy, Sem.run_bind, hg, hr, Result.andThen_ok, Sem.run_pure]
theorem wpList_load_val {P : Program} {ops : Array Oper} {rest : List Oper} {o : Oper} {a : Act} {w : World} {Q : Exit → Act → World → Prop} (hw : Region.wanted o (yielded ops a.tmps) = true) (ty : TypeId) (x : Operand) (ho : o.op = .load ty x)
    (ad : Addr) (hx : a.eval x = .pointer (some ad)) (v : Value) (hv : (loadVar ty ad).run P w = .ok v w) (h : wpList P ops Q rest (a.put o.dst v) w) : wpList P ops Q (o :: rest) a w := by
  unfold wpList
  rw [if_pos hw]
  refine .inl (wp_noOut ?_)
  unfold Oper.wp execOp
  simp only [ho, hx, Instr.loadAt, Instr.sureAddr, Sem.run_bind, Sem.run_pure, Result.andThen_ok, hv]
  exact h
theorem Led.skip {w0 w : World} {L : List (Nat × Obj)} (h : Led w0 w L) (n : Nat) : Led w0 w (L.eraseIdx n) :=
  have ht : ∀ (i : Nat) (p : Nat × Obj), (L.eraseIdx n)[i]? = some p → L[if i < n then i else i + 1]? = some p := fun i p hp => by
    rw [List.getElem?_eraseIdx] at hp
    split at hp
    · rename_i hq; rw [if_pos hq]; exact hp
    · rename_i hq; rw [if_neg hq]; exact hp
  ⟨h.aft, fun i g o hi => h.has _ g o (ht i _ hi), fun i j g k o p hij hi hj => h.inc _ _ g k o p (by split <;> split <;> omega) (ht i _ hi) (ht j _ hj)⟩
theorem Led.cut {w0 w : World} {L : List (Nat × Obj)} (h : Led w0 w L) (n : Nat) : Led w0 w (L.take n) :=
  have ht : ∀ (i : Nat) (p : Nat × Obj), (L.take n)[i]? = some p → L[i]? = some p := fun i p hp => by
    rw [List.getElem?_take] at hp
    split at hp
    · exact hp
    · cases hp
  ⟨h.aft, fun i g o hi => h.has i g o (ht i _ hi), fun i j g k o p hij hi hj => h.inc i j g k o p hij (ht i _ hi) (ht j _ hj)⟩
theorem getElem?_snoc {α : Type} {L : List α} {x y : α} {i : Nat} (h : (L ++ [x])[i]? = some y) (hl : ¬ i < L.length) : i = L.length ∧ x = y := by
  rw [List.getElem?_append_right (by omega)] at h
  have h0 : i - L.length = 0 := by have := (List.getElem?_eq_some_iff.1 h).1; simp at this; omega
  rw [h0] at h
  exact ⟨by omega, Option.some.inj h⟩
theorem Led.add {w0 w : World} {L : List (Nat × Obj)} {g : Nat} {o : Obj} (h : Led w0 w L) (hg : w.heap[g]? = some o) (hl : w0.heap.size ≤ g) (hi : ∀ (i k : Nat) (p : Obj), L[i]? = some (k, p) → k < g) : Led w0 w (L ++ [(g, o)]) := by
  refine ⟨h.aft, fun i k p hp => ?_, fun i j k m p q hij hp hq => ?_⟩
  · by_cases hlt : i < L.length
    · rw [List.getElem?_append_left hlt] at hp
      exact h.has i k p hp
    · obtain ⟨-, e⟩ := getElem?_snoc hp hlt
      cases e
      exact ⟨hg, hl⟩
  · by_cases hlt : j < L.length
    · rw [List.getElem?_append_left hlt] at hq
      rw [List.getElem?_append_left (by omega)] at hp
      exact h.inc i j k m p q hij hp hq
    · obtain ⟨hj, e⟩ := getElem?_snoc hq hlt
      cases e
      rw [List.getElem?_append_left (by omega)] at hp
      exact hi i k p hp
end Go.Proofs.Ytpnckphfjcnooaa
