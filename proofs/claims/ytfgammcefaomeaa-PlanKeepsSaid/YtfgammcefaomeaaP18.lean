/- The plain law of PlanKeeps, as its walk uses it. -/
import Derived.Test.YtfgammcefaomeaaP15
namespace Go.Proofs.Ytfgammcefaomeaa
open Go Go.RowKit
/-- What is kept, with all numbers named. -/
structure KpT (A B : List Nd) (ids0 ids T K : List Int) (by' : Int) (i j x0 y0 x1 y1 : Nat) : Prop where
  lt : j < A.length
  f0 : (A.getD j nd0).fr = (x0 : Int)
  t0 : (A.getD j nd0).tt = (y0 : Int)
  f1 : (B.getD i nd0).fr = (x1 : Int)
  t1 : (B.getD i nd0).tt = (y1 : Int)
  b0 : x0 < y0 ∧ y0 ≤ ids0.length
  b1 : x1 < y1 ∧ y1 ≤ ids.length
  ln : y0 - x0 = y1 - x1
  same : ∀ n, n < y1 - x1 → ids0.getD (x0 + n) 0 = ids.getD (x1 + n) 0 ∧ ids.getD (x1 + n) 0 ∉ T ∧ ids.getD (x1 + n) 0 ≠ by'
  kd : ∀ z ∈ (B.getD i nd0).ks, ∃ q : Nat, z = (q : Int) ∧ q < i ∧ 0 ≤ K.getD q 0
  one : ∀ i', i' < i → K.getD i' 0 ≠ (j : Int)
theorem keeps_law {kind by' : Int} {ids0 ids T : List Int} {ls0 ls : List (List Int)} (h0 : OkT ids0 ls0) (h1 : OkT ids ls) {A B : List Nd} (eA : A = nodesL kind ids0 ls0) (eB : B = nodesL kind ids ls) {K : List Int} (eK : K = keepL A (lvT A ids0 T by') ids B B.length) {i : Nat} (hi : i < B.length) :
    K.getD i 0 = -1 ∨ ∃ j x0 y0 x1 y1 : Nat, K.getD i 0 = (j : Int) ∧ KpT A B ids0 ids T K by' i j x0 y0 x1 y1 := by
  have hall := fun i hi => kp_all (T := T) (by' := by') h0 h1 eA eB eK (i + 1) i (Nat.lt_succ_self i) hi
  rcases hall i hi with h | ⟨j, hj, hk⟩
  · exact .inl h
  · obtain ⟨x0, y0, a1, a2, a3, a4⟩ := nodes_span (kind := kind) h0 (j + 1) j (Nat.lt_succ_self j) (by rw [← eA]; exact hk.lt)
    obtain ⟨x1, y1, c1, c2, c3, c4⟩ := nodes_span (kind := kind) h1 (i + 1) i (Nat.lt_succ_self i) (by rw [← eB]; exact hi)
    rw [← eA] at a1 a2
    rw [← eB] at c1 c2
    obtain ⟨s1, s2, s3⟩ := hk.sp
    refine .inr ⟨j, x0, y0, x1, y1, hj, hk.lt, a1, a2, c1, c2, ⟨a3, a4⟩, ⟨c3, c4⟩, by omega, fun n hn => ?_, fun z hz => ?_, fun i' hi' q => ?_⟩
    · have := s3 n (by omega)
      rw [a1, c1, show ((x1 : Int) + (n : Int)).toNat = x1 + n by omega, show ((x0 : Int) + (n : Int)).toNat = x0 + n by omega] at this
      exact ⟨this.1.symm, this.2⟩
    · have h := nodes_kd (kind := kind) h1 (i := i) (by rw [← eB]; exact hi) z (by rw [← eB]; exact hz)
      obtain ⟨q, q1, q2⟩ := h
      refine ⟨q, q1, q2, ?_⟩
      have := hk.kd z hz
      rwa [q1, Int.toNat_natCast] at this
    · have := kp_one h1 eB hall (i + 1) i i' (Nat.lt_succ_self i) hi (by omega) (by omega) (by omega)
      omega
end Go.Proofs.Ytfgammcefaomeaa
