/- Slices of keys: how they read, and how one comes in. -/
import Derived.Test.YtpnckphfjcnooaaStruct
import Derived.Test.YtpnckphfjcnooaaA5
import Derived.Test.YtpnckphfjcnooaaLed
import Derived.Deep.Slices
namespace Go.Proofs.Ytpnckphfjcnooaa
open Go Go.RowKit
def ksL (ks : List (List (BitVec 8))) : List Value := (ks.map bv).flatten
theorem ksL_cons (k : List (BitVec 8)) (ks : List (List (BitVec 8))) : ksL (k :: ks) = bv k ++ ksL ks := by simp [ksL]
theorem ksL_length : ∀ {ks : List (List (BitVec 8))} (_ : ∀ k ∈ ks, k.length = 32), (ksL ks).length = ks.length * 32
  | [], _ => rfl
  | k :: ks, h => by
    rw [ksL_cons, List.length_append, bv_length, h k (by simp), ksL_length (fun x hx => h x (by simp [hx])), List.length_cons]
    omega
theorem ksL_at : ∀ {ks : List (List (BitVec 8))} (_ : ∀ k ∈ ks, k.length = 32) (i j : Nat), i < ks.length → j < 32 → (ksL ks)[i * 32 + j]? = (bv (ks.getD i []))[j]?
  | [], _, i, j, hi, _ => by simp at hi
  | k :: ks, h, 0, j, _, hj => by
    rw [ksL_cons, Nat.zero_mul, Nat.zero_add, List.getElem?_append_left (by rw [bv_length, h k (by simp)]; exact hj)]
    rfl
  | k :: ks, h, i + 1, j, hi, hj => by
    have h1 : (bv k).length = 32 := by rw [bv_length, h k (by simp)]
    rw [ksL_cons, List.getElem?_append_right (by rw [h1]; omega), h1, show (i + 1) * 32 + j - 32 = i * 32 + j by omega, ksL_at (fun x hx => h x (by simp [hx])) i j (by simpa using hi) hj]
    rfl
/-- A slice of keys reads as a list of keys. -/
def RdK (w : World) (v : Value) (ks : List (List (BitVec 8))) : Prop :=
  ∃ ao cap, v = .slice ao ks.length cap ∧ ks.length ≤ cap ∧ cap ≤ 9223372036854775807 ∧ (ao = none → cap = 0) ∧ (∀ k ∈ ks, k.length = 32) ∧ ∀ ad, ao = some ad → ∀ i, i < ks.length → Rd w (.slice (some (ad.add (i * 32))) 32 32) (bv (ks.getD i []))
theorem RdK.nil (w : World) : RdK w (.slice none 0 0) [] := ⟨none, 0, rfl, Nat.le_refl _, by omega, fun _ => rfl, fun _ h => (by simp at h), fun _ h => (by cases h)⟩
theorem RdK.grow {w w' : World} {v : Value} {ks : List (List (BitVec 8))} (h : RdK w v ks) (hb : Aft w w') : RdK w' v ks := by
  obtain ⟨ao, cap, rfl, h1, h2, h3, h4, h5⟩ := h
  exact ⟨ao, cap, rfl, h1, h2, h3, h4, fun ad ha i hi => (h5 ad ha i hi).grow hb⟩
theorem RdK.shape {w : World} {v : Value} {ks : List (List (BitVec 8))} (h : RdK w v ks) : ∃ ao cap, v = .slice ao ks.length cap ∧ ks.length ≤ 9223372036854775807 ∧ ∀ k ∈ ks, k.length = 32 := by
  obtain ⟨ao, cap, rfl, h1, h2, h3, h4, h5⟩ := h
  exact ⟨ao, cap, rfl, by omega, h4⟩
/-- An element: where it lies, and what it reads as. -/
theorem RdK.at {w : World} {v : Value} {ks : List (List (BitVec 8))} (h : RdK w v ks) {i : Nat} (hi : i < ks.length) :
    ∃ g o cap, v = .slice (some ⟨g, o, none⟩) ks.length cap ∧ (ks.getD i []).length = 32 ∧ Rd w (.slice (some ⟨g, o + i * 32, none⟩) 32 32) (bv (ks.getD i [])) := by
  obtain ⟨ao, cap, rfl, h1, h2, h3, h4, h5⟩ := h
  have hk : (ks.getD i []).length = 32 := by
    rw [List.getD_eq_getElem?_getD, List.getElem?_eq_getElem hi]
    exact h4 _ (List.getElem_mem hi)
  cases ao with
  | none => have := h3 rfl; omega
  | some ad =>
    have h0 : (ks.getD 0 []).length = 32 := by
      rw [List.getD_eq_getElem?_getD, List.getElem?_eq_getElem (by omega)]
      exact h4 _ (List.getElem_mem _)
    obtain ⟨g, o, c, he, -⟩ := (h5 ad rfl 0 (by omega)).at (by rw [bv_length, h0]; omega)
    injection he with he
    obtain rfl : ad = ⟨g, o, none⟩ := by
      have := Option.some.inj he
      rwa [show ad.add (0 * 32) = ad from rfl] at this
    have h6 := h5 _ rfl i hi
    rw [Addr.add_lit] at h6
    exact ⟨g, o, cap, rfl, hk, h6⟩
/-- The cells of all. -/
theorem RdK.cells {w : World} {ad : Addr} {n cap : Nat} {ks : List (List (BitVec 8))} (h : RdK w (.slice (some ad) n cap) ks) : ∀ j u, (ksL ks)[j]? = some u → w.cell? (ad.add j) = some u := by
  obtain ⟨ao, cap, he, h1, h2, h3, h4, h5⟩ := h
  intro j u hu
  have hL := ksL_length h4
  have hj : j < ks.length * 32 := by
    have := (List.getElem?_eq_some_iff.1 hu).1
    omega
  injection he with ha
  obtain ⟨a2, c2, e2, r1, r2, r3, r4⟩ := h5 ad ha.symm (j / 32) (by omega)
  have hd := ksL_at h4 (j / 32) (j % 32) (by omega) (Nat.mod_lt _ (by omega))
  rw [show j / 32 * 32 + j % 32 = j by omega] at hd
  injection e2 with e2
  have := r4 _ e2.symm (j % 32) u (hd.symm.trans hu)
  rwa [Deep.add_add, show j / 32 * 32 + j % 32 = j by omega] at this
end Go.Proofs.Ytpnckphfjcnooaa
namespace Go.Proofs.Ytpnckphfjcnooaa
open Go Go.RowKit Go.ChangeShapes Go.WideShapes Go.ChangeAt
section
variable {H : Type} {enc : TypeId × Value → H} {w : World} {base : Nat} {spare : Nat → Bool} {held : Bool}
end
end Go.Proofs.Ytpnckphfjcnooaa

