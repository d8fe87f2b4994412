/- What follows of known numbers by rules: plain (law 24). -/
import Derived.Test.YtfgammcefaomeaaB2
namespace Go.Proofs.Ytfgammcefaomeaa
/-- A rule: of what, and what follows. -/
structure Rl where
  frm : List Int
  to : Int
inductive Rch (known : List Int) (rs : List Rl) : Int → Prop
  | base {x : Int} : x ∈ known → Rch known rs x
  | step {r : Rl} : r ∈ rs → (∀ x ∈ r.frm, Rch known rs x) → Rch known rs r.to
def Shut (rs : List Rl) (S : Int → Prop) : Prop := ∀ r ∈ rs, (∀ x ∈ r.frm, S x) → S r.to
theorem Rch.least {known : List Int} {rs : List Rl} {S : Int → Prop} (h0 : ∀ x ∈ known, S x) (h1 : Shut rs S) {x : Int} (h : Rch known rs x) : S x := by
  induction h with
  | base h => exact h0 _ h
  | step hr _ ih => exact h1 _ hr ih
theorem Rch.shut (known : List Int) (rs : List Rl) : Shut rs (Rch known rs) := fun _ hr h => .step hr h
/-- What is shut, has what is known, and has nothing else, is it. -/
theorem Rch.iff {known : List Int} {rs : List Rl} {S : Int → Prop} (h0 : ∀ x ∈ known, S x) (h1 : Shut rs S) (h2 : ∀ x, S x → Rch known rs x) (x : Int) : S x ↔ Rch known rs x := ⟨h2 x, Rch.least h0 h1⟩
/-- A rising list with a number. -/
def wth (l : List Int) (n : Int) : List Int := if n ∈ l then l else l.filter (fun x => decide (x < n)) ++ n :: l.filter (fun x => decide (n < x))
theorem wth_mem {l : List Int} {n x : Int} : x ∈ wth l n ↔ x ∈ l ∨ x = n := by
  unfold wth
  split
  · rename_i h
    exact ⟨.inl, fun q => q.elim (fun h => h) (fun e => e ▸ h)⟩
  · rename_i h
    simp only [List.mem_append, List.mem_filter, List.mem_cons, decide_eq_true_eq]
    constructor
    · rintro (⟨h1, -⟩ | rfl | ⟨h1, -⟩)
      · exact .inl h1
      · exact .inr rfl
      · exact .inl h1
    · rintro (h1 | rfl)
      · rcases Int.lt_trichotomy x n with h2 | rfl | h2
        · exact .inl ⟨h1, h2⟩
        · exact absurd h1 h
        · exact .inr (.inr ⟨h1, h2⟩)
      · exact .inr (.inl rfl)
theorem wth_rise {l : List Int} {n : Int} (h : l.Pairwise (· < ·)) : (wth l n).Pairwise (· < ·) := by
  unfold wth
  split
  · exact h
  · refine List.pairwise_append.2 ⟨h.filter _, List.pairwise_cons.2 ⟨fun y hy => ?_, h.filter _⟩, fun x hx y hy => ?_⟩
    · simpa using (List.mem_filter.1 hy).2
    · have h1 : x < n := by simpa using (List.mem_filter.1 hx).2
      rcases List.mem_cons.1 hy with rfl | hy
      · exact h1
      · have h2 : n < y := by simpa using (List.mem_filter.1 hy).2
        omega
end Go.Proofs.Ytfgammcefaomeaa
