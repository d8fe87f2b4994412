/- An epoch that comes in: its cells; and six arguments. -/
import Derived.Test.YtanodhagpegbfaaDoorOpenDraws
import Derived.Test.YtanodhagpegbfaaDoorOpenFive
import Derived.Test.YtanodhagpegbfaaDoorEpo
namespace Go.Proofs.YtanodhagpegbfaaDoor
open Go Go.RowKit Go.ChangeShapes Go.WideShapes Go.ChangeAt
theorem epo_mk6 {A B C D h : List (BitVec 8)} {n : Nat} (hn : n < 18446744073709551616) (a : A.length = 32) (b : B.length = 32) (c : C.length = 32) (d : D.length = 32) (hh : h.length = 32) : Epo.Ok ⟨n, A, B, C, D, h⟩ := ⟨hn, a, b, c, d, hh⟩
section
variable {H : Type} {enc : TypeId × Value → H} {w : World} {base : Nat} {spare : Nat → Bool} {held : Bool}
set_option maxRecDepth 100000 in
theorem open_epochV {v : Value} {d : DataW H} {ps : List MemPlace} {W2 : World} {r : Reach} (hok : Value.okWide Tryd.prog W2 r base 55 v) (h : DataW.Trod enc Tryd.prog w 0 spare held 55 v d ps) :
    ∃ e : Epo, v = .agg (epoL e).toArray ∧ e.Ok := by
  obtain ⟨cs, rfl, -⟩ := okWide_struct Tryd.underlying55 hok
  obtain ⟨fuel, hf⟩ := h
  obtain ⟨xs, m, _, hx1, hl, hlen, hf⟩ := DataW.trod_struct Tryd.underlying55 hf
  have hl : (Value.agg cs).cells.toList.length = 161 := by rw [hl]; kernel_rfl
  have hlen : xs.length = 6 := hlen
  have hk0 : Tryd.prog.cellsOf 23 = 32 := by kernel_rfl
  have hk1 : Tryd.prog.cellsOf 37 = 1 := by kernel_rfl
  generalize hcs : (Value.agg cs).cells.toList = L at *
  have f0 := hf 0 _ rfl
  have f1 := hf 1 _ rfl
  have f2 := hf 2 _ rfl
  have f3 := hf 3 _ rfl
  have f4 := hf 4 _ rfl
  have f5 := hf 5 _ rfl
  rw [List.getElem?_eq_getElem (by omega)] at f0 f1 f2 f3 f4 f5
  change DataW.trod _ _ _ _ _ _ _ 37 (List.take (Tryd.prog.cellsOf 37) L) = _ at f0
  change DataW.trod _ _ _ _ _ _ _ 23 (List.take (Tryd.prog.cellsOf 23) (List.drop 1 L)) = _ at f1
  change DataW.trod _ _ _ _ _ _ _ 23 (List.take (Tryd.prog.cellsOf 23) (List.drop 33 L)) = _ at f2
  change DataW.trod _ _ _ _ _ _ _ 23 (List.take (Tryd.prog.cellsOf 23) (List.drop 65 L)) = _ at f3
  change DataW.trod _ _ _ _ _ _ _ 23 (List.take (Tryd.prog.cellsOf 23) (List.drop 97 L)) = _ at f4
  change DataW.trod _ _ _ _ _ _ _ 23 (List.take (Tryd.prog.cellsOf 23) (List.drop 129 L)) = _ at f5
  rw [hk1] at f0
  rw [hk0] at f1 f2 f3 f4 f5
  obtain ⟨z, e0, -, wz⟩ := DataW.trod_int Tryd.underlying37 f0
  obtain ⟨k1, e1, hk1⟩ := open_keyCells (by simp; omega) f1
  obtain ⟨k2, e2, hk2⟩ := open_keyCells (by simp; omega) f2
  obtain ⟨k3, e3, hk3⟩ := open_keyCells (by simp; omega) f3
  obtain ⟨k4, e4, hk4⟩ := open_keyCells (by simp; omega) f4
  obtain ⟨k5, e5, hk5⟩ := open_keyCells (by simp; omega) f5
  have bz := bounds_u64 wz
  have s0 := List.take_append_drop 1 L
  have s1 := List.take_append_drop 32 (L.drop 1)
  have s2 := List.take_append_drop 32 (L.drop 33)
  have s3 := List.take_append_drop 32 (L.drop 65)
  have s4 := List.take_append_drop 32 (L.drop 97)
  have s5 : (L.drop 129).take 32 = L.drop 129 := List.take_of_length_le (by simp; omega)
  rw [List.drop_drop] at s1 s2 s3 s4
  have hL : L = .int .u64 z :: (bv k1 ++ (bv k2 ++ (bv k3 ++ (bv k4 ++ bv k5)))) := by
    rw [← e1, ← e2, ← e3, ← e4, ← e5, s5, s4, s3, s2, s1]
    conv => lhs; rw [← s0, e0]
    rfl
  refine ⟨⟨z.toNat, k1, k2, k3, k4, k5⟩, ?_, epo_mk6 (by omega) hk1 hk2 hk3 hk4 hk5⟩
  unfold epoL
  simp only
  rw [Int.toNat_of_nonneg bz.1, ← hL, ← hcs]
  rfl
end
section
variable {H : Type} {enc : TypeId × Value → H} {P : Program} {w : World} {base : Nat} {spare : Nat → Bool} {held : Bool}
theorem trodAll_six {t0 t1 t2 t3 t4 t5 : TypeId} {args : Array Value} {ds : List (DataW H)} {ps : List MemPlace} (h : DataW.TrodAll enc P w base spare held [t0, t1, t2, t3, t4, t5] args.toList ds ps) :
    ∃ v0 v1 v2 v3 v4 v5 d0 d1 d2 d3 d4 d5 p0 p1 p2 p3 p4 p5, args = #[v0, v1, v2, v3, v4, v5] ∧ ds = [d0, d1, d2, d3, d4, d5] ∧ ps = p0 ++ p1 ++ p2 ++ p3 ++ p4 ++ p5 ∧ DataW.Trod enc P w base spare held t0 v0 d0 p0 ∧ DataW.Trod enc P w base spare held t1 v1 d1 p1 ∧ DataW.Trod enc P w base spare held t2 v2 d2 p2 ∧ DataW.Trod enc P w base spare held t3 v3 d3 p3 ∧ DataW.Trod enc P w base spare held t4 v4 d4 p4 ∧ DataW.Trod enc P w base spare held t5 v5 d5 p5 := by
  obtain ⟨v0, l0, d0, e0, p0, q0, hargs, rfl, rfl, h0, k0⟩ := trodAll_cons h
  obtain ⟨v1, l1, d1, e1, p1, q1, rfl, rfl, rfl, h1, k1⟩ := trodAll_cons k0
  obtain ⟨v2, l2, d2, e2, p2, q2, rfl, rfl, rfl, h2, k2⟩ := trodAll_cons k1
  obtain ⟨v3, l3, d3, e3, p3, q3, rfl, rfl, rfl, h3, k3⟩ := trodAll_cons k2
  obtain ⟨v4, l4, d4, e4, p4, q4, rfl, rfl, rfl, h4, k4⟩ := trodAll_cons k3
  obtain ⟨v5, l5, d5, e5, p5, q5, rfl, rfl, rfl, h5, k5⟩ := trodAll_cons k4
  obtain ⟨rfl, rfl, rfl⟩ := trodAll_nil k5
  exact ⟨v0, v1, v2, v3, v4, v5, d0, d1, d2, d3, d4, d5, p0, p1, p2, p3, p4, p5, by cases args; simp_all, rfl, by simp, h0, h1, h2, h3, h4, h5⟩
theorem trodAll_mk6 {t0 t1 t2 t3 t4 t5 : TypeId} {v0 v1 v2 v3 v4 v5 : Value} {d0 d1 d2 d3 d4 d5 : DataW H} {p0 p1 p2 p3 p4 p5 : List MemPlace} (h0 : DataW.Trod enc P w base spare held t0 v0 d0 p0) (h1 : DataW.Trod enc P w base spare held t1 v1 d1 p1) (h2 : DataW.Trod enc P w base spare held t2 v2 d2 p2) (h3 : DataW.Trod enc P w base spare held t3 v3 d3 p3) (h4 : DataW.Trod enc P w base spare held t4 v4 d4 p4) (h5 : DataW.Trod enc P w base spare held t5 v5 d5 p5) :
    DataW.TrodAll enc P w base spare held [t0, t1, t2, t3, t4, t5] [v0, v1, v2, v3, v4, v5] [d0, d1, d2, d3, d4, d5] (p0 ++ (p1 ++ (p2 ++ (p3 ++ (p4 ++ p5))))) := ⟨p0, p1 ++ (p2 ++ (p3 ++ (p4 ++ p5))), h0, trodAll_mk5 h1 h2 h3 h4 h5, rfl⟩
end
end Go.Proofs.YtanodhagpegbfaaDoor
