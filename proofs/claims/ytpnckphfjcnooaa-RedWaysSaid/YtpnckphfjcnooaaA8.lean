import Derived.Test.YtpnckphfjcnooaaA6
import Derived.Lib.Tables
import Derived.Lib.BitFns
import Derived.Lib.ItoaNum
import Derived.Test.YtpnckphfjcnooaaA2
import Derived.Laws.Bits64
import Derived.Test.YtpnckphfjcnooaaA4
/- Numbers written: math/bits.Len64, wire.fits, the predicate of wire.Num, slices.IndexFunc and ContainsFunc at it, wire.put. -/
namespace Go.Proofs.Ytpnckphfjcnooaa
open Go Go.RowKit
/-- Numbers, as values. -/
def nv (ns : List Nat) : List Value := ns.map fun (x : Nat) => Value.int .u64 (x : Int)
/-- A number of a list. -/
def nat (ns : List Nat) (i : Nat) : Nat := ns.getD i 0
theorem nv_at (ns : List Nat) (i : Nat) (h : i < ns.length) : (nv ns)[i]? = some (.int .u64 ((nat ns i : Nat) : Int)) := by simp [nv, nat, List.getD, List.getElem?_eq_getElem h]
theorem Rd.nat_at {w : World} {g o n cap : Nat} {ns : List Nat} (h : Rd w (.slice (some ⟨g, o, none⟩) n cap) (nv ns)) {i : Nat} (hi : i < ns.length) : w.cell? ⟨g, o + i, none⟩ = some (.int .u64 ((nat ns i : Nat) : Int)) := by
  obtain ⟨ao', cap', hv, h1, h2, h3, h4⟩ := h
  cases hv
  have := h4 _ rfl i _ (nv_at ns i hi)
  rwa [Addr.add_lit] at this
end Go.Proofs.Ytpnckphfjcnooaa
/- wire.put, wire.Num, and coterieref01.Num. -/
namespace Go.Proofs.Ytpnckphfjcnooaa
open Go Go.RowKit
end Go.Proofs.Ytpnckphfjcnooaa
/- bytes.Buffer at this program: the kit's contracts on Write and Bytes, and a write of no bytes. -/
namespace Go.Proofs.Ytpnckphfjcnooaa
open Go Go.RowKit
end Go.Proofs.Ytpnckphfjcnooaa
/- wire.Text, and coterieref01.Text: texts written. -/
namespace Go.Proofs.Ytpnckphfjcnooaa
open Go Go.RowKit
/-- A text of a list. -/
def txt (ts : List (List (BitVec 8))) (i : Nat) : List (BitVec 8) := ts.getD i []
end Go.Proofs.Ytpnckphfjcnooaa
/- coterielaw01.live: the chapter's examples hold. -/
namespace Go.Proofs.Ytpnckphfjcnooaa
open Go Go.RowKit
end Go.Proofs.Ytpnckphfjcnooaa
/- coterielaw01.WireOrder: it answers true. -/
namespace Go.Proofs.Ytpnckphfjcnooaa
open Go Go.RowKit
end Go.Proofs.Ytpnckphfjcnooaa
/- Numbers and texts read: wire.TakeNum, TakeText, Texts, End, and the document's. -/
namespace Go.Proofs.Ytpnckphfjcnooaa
open Go Go.RowKit
/-- A byte of those from a place on. -/
def byteFrom (b : List (BitVec 8)) (p i : Nat) : BitVec 8 := b.getD (p + i) 0
theorem take_from_succ (b : List (BitVec 8)) (p i : Nat) (h : p + i < b.length) : (b.drop p).take (i + 1) = (b.drop p).take i ++ [byteFrom b p i] := by
  rw [List.take_add_one]
  congr 1
  rw [List.getElem?_drop, List.getElem?_eq_getElem h]
  unfold byteFrom
  rw [List.getD_eq_getElem?_getD, List.getElem?_eq_getElem h]
  rfl
set_option maxRecDepth 100000 in
theorem cut_lh {w : World} {ao : Option Addr} {len cap p n : Nat} {b : List (BitVec 8)} (h : Rd w (.slice ao len cap) (bv b)) (hj : p + n ≤ b.length) (l r : Int) (hl : l = ((p : Nat) : Int)) (hr : r = ((p + n : Nat) : Int)) :
    ∃ ax, (∀ wx, (Instr.slice 32 (.slice ao len cap) (some (.int .i64 l)) (some (.int .i64 r)) none).run Try.prog wx = .ok (.slice ax n (cap - p)) wx) ∧ Rd w (.slice ax n (cap - p)) (bv ((b.drop p).take n)) := by
  subst hl hr
  have hs := h.sl
  rw [bv_length] at hs
  have h1 := (h.from (n := p) (by rw [bv_length]; omega)).to (n := n) (by rw [List.length_drop, bv_length]; omega)
  rw [← bv_drop, ← bv_take] at h1
  refine ⟨_, fun wx => ?_, h1⟩
  obtain ⟨i0, hi, hz1, hz2, hz3⟩ := info_parts info_byte
  have hc : Try.prog.cellsOf 5 = 1 := by simp [Program.cellsOf, hi, hz2]
  rw [run_slice_lh wx 32 ao len cap Try.underlying32 .i64 .i64 ((p : Nat) : Int) ((p + n : Nat) : Int) (by omega) (by omega) (by omega)]
  rw [show Try.prog.elem 32 = 5 from rfl, run_sizeOf wx hi]
  simp only [Result.andThen, sliced, Int.toNat_natCast]
  rw [hc, Nat.mul_one, Nat.add_sub_cancel_left]
end Go.Proofs.Ytpnckphfjcnooaa
/- Texts read: wire.TakeText, Texts, End, and the document's; and coterieref01.SameAll. -/
namespace Go.Proofs.Ytpnckphfjcnooaa
open Go Go.RowKit
/-- What TakeText hands back, as values. -/
def TTSays (x : List (BitVec 8) × Int × Int) (w : World) (e : Ending) (w' : World) : Prop :=
  ∃ ao cap, e = .returned (.tuple #[.slice ao (bv x.1).length cap, .int .i64 x.2.1, .int .i64 x.2.2]) ∧ w'.ownsRow w.heap.size 5 1 (.slice ao (bv x.1).length cap) (bv x.1).length (bv x.1) ∧ Below w.heap.size w w'
theorem TTSays.some {x : List (BitVec 8) × Int × Int} {t : List (BitVec 8)} {q e : Int} {ao : Option Addr} {n cap : Nat} {w w' : World} (h : x = (t, q, e)) (hn : n = (bv t).length) (ho : w'.ownsRow w.heap.size 5 1 (.slice ao (bv t).length cap) (bv t).length (bv t)) (hb : Below w.heap.size w w') :
    TTSays x w (.returned (.tuple #[.slice ao n cap, .int .i64 q, .int .i64 e])) w' := by
  subst h hn
  exact ⟨_, _, rfl, ho, hb⟩
/-- Texts, each a row of its own; the slice of them too. -/
def OwnT (B : Nat) (v : Value) (l : List (List (BitVec 8))) (w : World) : Prop :=
  ∃ vs, w.ownsRow B 32 1 v vs.length vs ∧ vs.length = l.length ∧ ∀ j u, vs[j]? = some u → w.ownsRow B 5 1 u (bv (txt l j)).length (bv (txt l j))
theorem own_ne {w : World} {B1 B2 e1 e2 n1 n2 : Nat} {v1 v2 : Value} {x1 x2 : List Value} (h1 : w.ownsRow B1 e1 1 v1 n1 x1) (h2 : w.ownsRow B2 e2 1 v2 n2 x2) (he : e1 ≠ e2) : v1.ownBlock = none ∨ v1.ownBlock ≠ v2.ownBlock := by
  rcases h1.2 with ⟨rfl, -⟩ | ⟨g1, c1, k1, rfl, -, q1, -⟩
  · exact .inl rfl
  · refine .inr ?_
    rcases h2.2 with ⟨rfl, -⟩ | ⟨g2, c2, k2, rfl, -, q2, -⟩
    · simp [Value.ownBlock]
    · simp only [Value.ownBlock, ne_eq, Option.some.injEq]
      intro h
      subst h
      rw [q1] at q2
      simp only [Option.some.injEq, Obj.cells.injEq] at q2
      exact he q2.2.1
theorem OwnT.below {B : Nat} {v : Value} {l : List (List (BitVec 8))} {w w' : World} (h : OwnT B v l w) (hb : Aft w w') : OwnT B v l w' := by
  obtain ⟨vs, h1, h2, h3⟩ := h
  exact ⟨vs, ownsRow_below h1 (fun g hg => Below.block hb g (own_lt h1 hg).2), h2, fun j u hu => ownsRow_below (h3 j u hu) (fun g hg => Below.block hb g (own_lt (h3 j u hu) hg).2)⟩
theorem OwnT.all {B : Nat} {v : Value} {l : List (List (BitVec 8))} {w : World} (h : OwnT B v l w) : RdAll w v l := by
  obtain ⟨vs, h1, h2, h3⟩ := h
  exact ⟨vs, Rd.of_own h1, h2, fun i u hu => Rd.of_own (h3 i u hu)⟩
theorem OwnT.nil (B : Nat) (w : World) : OwnT B (.slice none 0 0) [] w := ⟨[], World.ownsRow_nil _ _ _ _, rfl, fun j u hu => by simp at hu⟩
theorem OwnT.shape {B : Nat} {v : Value} {l : List (List (BitVec 8))} {w : World} (h : OwnT B v l w) : ∃ a c, v = .slice a l.length c := by
  obtain ⟨vs, h1, h2, -⟩ := h
  obtain ⟨a, c, rfl⟩ := own_shape h1
  exact ⟨a, c, by rw [h2]⟩
end Go.Proofs.Ytpnckphfjcnooaa
/- wire.Texts, End, the document's, and coterieref01.SameAll. -/
namespace Go.Proofs.Ytpnckphfjcnooaa
open Go Go.RowKit
theorem OwnT.one {B : Nat} {l : List (List (BitVec 8))} {w : World} {vs : List Value} (h : ∀ j u, vs[j]? = some u → w.ownsRow B 5 1 u (bv (txt l j)).length (bv (txt l j))) : ∀ u ∈ vs, u.oneCell' = true := by
  intro u hu
  obtain ⟨i, hi⟩ := List.getElem?_of_mem hu
  obtain ⟨a, c, rfl⟩ := own_shape (h i u hi)
  rfl
end Go.Proofs.Ytpnckphfjcnooaa
/- coterielaw01.WireReads: it answers true. -/
namespace Go.Proofs.Ytpnckphfjcnooaa
open Go Go.RowKit
end Go.Proofs.Ytpnckphfjcnooaa

