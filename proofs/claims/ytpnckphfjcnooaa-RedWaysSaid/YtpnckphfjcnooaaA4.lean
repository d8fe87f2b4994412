import Derived.Test.YtpnckphfjcnooaaA3
import Derived.Laws.CopyOwn
/- law02.ShaRest, walked whole. -/
namespace Go.Proofs.Ytpnckphfjcnooaa
open Go Go.RowKit
theorem wrap64_mid {z : Int} (h0 : 0 ≤ z) (h1 : z < 9223372036854775808) : wrap64 z = z := by
  unfold wrap64
  omega
theorem RdAll.blk {w : World} {v : Value} {g : Nat} {t : TypeId} {fr : Nat × Nat} {l : List (BitVec 8)} (hg : w.heap[g]? = some (.cells #[v] t fr)) (h : Rd w v (bv l)) : RdAll w (.slice (some ⟨g, 0, none⟩) 1 1) [l] := by
  refine ⟨[v], ⟨some ⟨g, 0, none⟩, 1, rfl, Nat.le_refl _, by omega, (fun h => by cases h), fun ad ha j u hu => ?_⟩, rfl, fun i u hu => ?_⟩
  · cases ha
    cases j with
    | zero => cases hu; simp [World.cell?, hg, Addr.add]
    | succ j => simp at hu
  · cases i with
    | zero => cases hu; exact h
    | succ i => simp at hu
end Go.Proofs.Ytpnckphfjcnooaa
/- law02.ShaParts, walked whole. -/
namespace Go.Proofs.Ytpnckphfjcnooaa
open Go Go.RowKit
section
variable {P : Program} {ops : Array Oper} {w0 : World} {Kd : Nat → Nat} {Q : Exit → Act → World → Prop} {n k : Nat} {o : Oper} {l : List Oper} {a : Act} {w : World}
theorem lf_load_row (hk : Kd k = 0) (hw : Region.wanted o (yielded ops a.tmps) = true) (ty : TypeId) (x : Operand) (ho : o.op = .load ty x)
    (g : Nat) (hx : a.eval x = .pointer (some ⟨g, 0, none⟩)) (t : TypeId) (cs : Array Value) (fr : Nat × Nat) (d : TypeDesc) (hg : w0.heap[g]? = some (.cells cs t fr))
    (hu : P.underlying ty = some d) (hd : (match d with | .struct _ | .array _ _ => true | _ => false) = true) (hi : (P.info? ty).map (·.size) = some cs.size)
    (h : wpFx P ops w0 Kd Q n (k + 1) l (a.put o.dst (.agg cs)) w) : wpFx P ops w0 Kd Q (n + 1) k (o :: l) a w := by
  have hup := wpFx_up (P := P) (ops := ops) (w0 := w0) (Kd := Kd) (Q := Q) n (k + 1) l
  simp only [wpFx_succ, stepF, hw, if_true, hk]
  rw [if_neg (by omega)]
  refine ⟨none, fun _ => .agg cs, fun _ => rfl, fun w1 hw1 _ => .inl ?_, fun w1 g hw1 _ => hup _ _ _ hw1 h⟩
  unfold execOp
  simp only [ho, hx, Instr.loadAt, Instr.sureAddr, Sem.run_bind, Sem.run_pure, Result.andThen_ok, run_loadVar_row w1 g t ty cs fr d (hw1.get hg) hu hd hi]
theorem wp_append_rd {K : Act → World → Prop} (s x : Operand) (t : TypeId)
    (ho : o.op = .call { callee := .builtin .append, args := #[s, x], argTypes := #[t, t] })
    (base : Nat) (e : TypeId) (z : Value) (bytes : Nat) (ht : P.underlying t = some (.slice e)) (hinfo : (P.info? e).map (fun i => (i.zero, i.size, i.bytes)) = some (some z, 1, bytes)) (hzs : z.cells.size = 1)
    (v vx : Value) (xs news : List Value) (hs : a.eval s = v) (hx : a.eval x = vx) (hown : w.ownsRow base e 1 v xs.length xs) (hrd : Rd w vx news) (h1 : ∀ u ∈ news, u.oneCell' = true)
    (hbytes : (xs.length + news.length) * bytes ≤ 140737488355328) (hlen : xs.length + news.length ≤ 140737488355328) (hbase : base ≤ w.heap.size)
    (h : ∀ v' w', w'.ownsRow base e 1 v' (xs ++ news).length (xs ++ news) → w.grownBy w' v.ownBlock → K (a.put o.dst v') w') : o.wp P a w K noOut :=
  wp_of_list (ops := #[]) (wpList_append_rd rfl s x t ho base e z bytes ht hinfo hzs v vx xs news hs hx hown hrd h1 hbytes hlen hbase fun v' w' k1 k2 _ => ⟨rfl, h v' w' k1 k2⟩)
end
theorem info_slice : (Try.prog.info? 32).map (fun i => (i.zero, i.size, i.bytes)) = some (some (.slice none 0 0), 1, 24) := by kernel_rfl
theorem RdAll.one_cell {w : World} {vs : List Value} {ps : List (List (BitVec 8))} (h : ∀ i v, vs[i]? = some v → Rd w v (bv (ps.getD i []))) : ∀ u ∈ vs, u.oneCell' = true := by
  intro u hu
  obtain ⟨i, hi⟩ := List.getElem?_of_mem hu
  obtain ⟨ao, cap, rfl, _⟩ := h i u hi
  rfl
theorem RdAll.join {w : World} {v : Value} {vs ws : List Value} {ps qs : List (List (BitVec 8))} (h : Rd w v (vs ++ ws)) (h1 : vs.length = ps.length) (h2 : ws.length = qs.length)
    (e1 : ∀ i v, vs[i]? = some v → Rd w v (bv (ps.getD i []))) (e2 : ∀ i v, ws[i]? = some v → Rd w v (bv (qs.getD i []))) : RdAll w v (ps ++ qs) := by
  refine ⟨vs ++ ws, h, by simp [h1, h2], fun i u hu => ?_⟩
  by_cases hi : i < vs.length
  · rw [List.getElem?_append_left hi] at hu
    have := e1 i u hu
    rw [List.getD_eq_getElem?_getD] at this ⊢
    rwa [List.getElem?_append_left (by omega)]
  · rw [List.getElem?_append_right (by omega)] at hu
    have := e2 _ u hu
    rw [List.getD_eq_getElem?_getD] at this ⊢
    rwa [List.getElem?_append_right (by omega), ← h1]
end Go.Proofs.Ytpnckphfjcnooaa
/- mac.held: a key, held against a byte. -/
namespace Go.Proofs.Ytpnckphfjcnooaa
open Go Go.RowKit
theorem Rd.addr {w : World} {ao : Option Addr} {n cap : Nat} {xs : List Value} (h : Rd w (.slice ao n cap) xs) (hx : 0 < xs.length) : ∃ ad, ao = some ad ∧ ∀ j u, xs[j]? = some u → w.cell? (ad.add j) = some u := by
  obtain ⟨ao', cap', hv, h1, h2, h3, h4⟩ := h
  cases hv
  cases ao with
  | none => have := h3 rfl; omega
  | some ad => exact ⟨ad, rfl, fun j u hu => h4 ad rfl j u hu⟩
theorem Rd.of_key {w : World} {g t : Nat} {X : List (BitVec 8)} (h : w.heap[g]? = some (.cells (bv X).toArray t (0, 0))) (hX : X.length = 32) : Rd w (.slice (some ⟨g, 0, none⟩) 32 32) (bv X) := by
  refine ⟨some ⟨g, 0, none⟩, 32, by rw [bv_length, hX], by rw [bv_length]; omega, by omega, (fun h => by cases h), fun ad ha j u hu => ?_⟩
  cases ha
  rw [Addr.add_lit]
  simp only [World.cell?, h, Nat.zero_add, List.getElem?_toArray]
  exact hu
end Go.Proofs.Ytpnckphfjcnooaa
/- mac.Mac: a sum with a key. -/
namespace Go.Proofs.Ytpnckphfjcnooaa
open Go Go.RowKit
theorem RdAll.two {w : World} {v1 v2 : Value} {g : Nat} {t : TypeId} {fr : Nat × Nat} {l1 l2 : List (BitVec 8)} (hg : w.heap[g]? = some (.cells #[v1, v2] t fr)) (h1 : Rd w v1 (bv l1)) (h2 : Rd w v2 (bv l2)) : RdAll w (.slice (some ⟨g, 0, none⟩) 2 2) [l1, l2] := by
  refine ⟨[v1, v2], ⟨some ⟨g, 0, none⟩, 2, rfl, Nat.le_refl _, by omega, (fun h => by cases h), fun ad ha j u hu => ?_⟩, rfl, fun i u hu => ?_⟩
  · cases ha
    match j with
    | 0 => cases hu; simp [World.cell?, hg, Addr.add]
    | 1 => cases hu; simp [World.cell?, hg, Addr.add]
    | j + 2 => simp at hu
  · match i with
    | 0 => cases hu; exact h1
    | 1 => cases hu; exact h2
    | i + 2 => simp at hu
end Go.Proofs.Ytpnckphfjcnooaa
/- law03.live: the chapter's example. -/
namespace Go.Proofs.Ytpnckphfjcnooaa
open Go Go.RowKit
end Go.Proofs.Ytpnckphfjcnooaa
/- mac.Equal. -/
namespace Go.Proofs.Ytpnckphfjcnooaa
open Go Go.RowKit
theorem Rd.cell_at {w : World} {g o n cap : Nat} {xs : List (BitVec 8)} (h : Rd w (.slice (some ⟨g, o, none⟩) n cap) (bv xs)) {i : Nat} (hi : i < xs.length) : w.cell? ⟨g, o + i, none⟩ = some (.int .u8 (bn (xs.getD i 0))) := by
  obtain ⟨ao', cap', hv, h1, h2, h3, h4⟩ := h
  cases hv
  have := h4 _ rfl i (.int .u8 (bn (xs.getD i 0))) (by simp [bv, List.getD, List.getElem?_eq_getElem hi])
  rwa [Addr.add_lit] at this
theorem Rd.some_of {w : World} {ao : Option Addr} {n cap : Nat} {xs : List Value} (h : Rd w (.slice ao n cap) xs) (hx : 0 < xs.length) : ∃ g o, ao = some ⟨g, o, none⟩ ∧ n = xs.length ∧ xs.length ≤ cap := by
  have hs := h.sl
  obtain ⟨g, o, cap', hv, _⟩ := h.at hx
  cases hv
  exact ⟨g, o, rfl, rfl, hs.2.1⟩
end Go.Proofs.Ytpnckphfjcnooaa

