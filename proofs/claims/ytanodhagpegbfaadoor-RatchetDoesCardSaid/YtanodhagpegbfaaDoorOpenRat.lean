/- A ratchet that comes in: its cells, and the Skips that are left. -/
import Derived.Test.YtanodhagpegbfaaDoorOpenDraws
import Derived.Test.YtanodhagpegbfaaDoorOpenFive
import Derived.Test.YtanodhagpegbfaaDoorSkips
namespace Go.Proofs.YtanodhagpegbfaaDoor
open Go Go.RowKit Go.ChangeShapes Go.WideShapes Go.ChangeAt
section
variable {H : Type} {enc : TypeId × Value → H} {w : World} {base : Nat} {spare : Nat → Bool} {held : Bool}
set_option maxRecDepth 100000 in
theorem open_skCells {fuel : Nat} {cs : List Value} {x : DataW H × List MemPlace} (hl : cs.length = 33) (h : DataW.trod enc Tryd.prog w base spare held fuel 73 cs = some x) : ∃ s : Sk, cs = skL s := by
  obtain ⟨xs, m, _, hx1, hl2, hlen, hf⟩ := DataW.trod_struct Tryd.underlying73 h
  have hlen : xs.length = 2 := hlen
  have hk0 : Tryd.prog.cellsOf 23 = 32 := by kernel_rfl
  have hk1 : Tryd.prog.cellsOf 37 = 1 := by kernel_rfl
  have f0 := hf 0 _ rfl
  have f1 := hf 1 _ rfl
  rw [List.getElem?_eq_getElem (by omega)] at f0 f1
  change DataW.trod _ _ _ _ _ _ _ 37 (List.take (Tryd.prog.cellsOf 37) cs) = _ at f0
  change DataW.trod _ _ _ _ _ _ _ 23 (List.take (Tryd.prog.cellsOf 23) (List.drop 1 cs)) = _ at f1
  rw [hk1] at f0
  rw [hk0] at f1
  obtain ⟨z, e0, -, wz⟩ := DataW.trod_int Tryd.underlying37 f0
  obtain ⟨k1, e1, hk1⟩ := open_keyCells (by simp; omega) f1
  have bz := bounds_u64 wz
  have s0 := List.take_append_drop 1 cs
  have s1 : (cs.drop 1).take 32 = cs.drop 1 := List.take_of_length_le (by simp; omega)
  refine ⟨⟨(z.toNat, k1), by have := bz.1; have := bz.2; simp only; omega, hk1⟩, ?_⟩
  unfold skL
  simp only
  rw [Int.toNat_of_nonneg bz.1, ← e1, s1]
  conv => lhs; rw [← s0, e0]
  rfl
set_option maxRecDepth 100000 in
theorem open_sksV {r : Reach} {b2 : Nat} {v : Value} {fuel : Nat} {x : DataW H × List MemPlace} (hc : Cell.okWide Tryd.prog w r b2 69 v) (h : DataW.trod enc Tryd.prog w base spare held fuel 69 [v] = some x) : ∃ zs, Sks w.heap.size w v zs := by
  rcases Deep.open_slice Tryd.underlying69 h with ⟨h1, h2⟩ | ⟨a, len, cap, m, n, D, Pl, h1, hb, hl, hm, hmm, hx, hi⟩
  · obtain rfl := List.singleton_inj.1 h1
    exact ⟨[], .inl ⟨rfl, rfl⟩⟩
  · obtain rfl := List.singleton_inj.1 h1
    have hk0 : Tryd.prog.cellsOf 73 = 33 := by kernel_rfl
    rw [hk0] at hi
    have hlm : len ≤ m := by rw [hmm]; split <;> omega
    simp only [Cell.okWide, Tryd.underlying69, Cell.ok] at hc
    obtain ⟨-, -, -, hsp, row, cells, hsh, -⟩ := hc
    have hbl : a.block < w.heap.size := by
      rcases Nat.lt_or_ge a.block w.heap.size with h' | h'
      · exact h'
      · simp [World.shape?, Array.getElem?_eq_none h'] at hsh
    obtain ⟨b, off, sp⟩ := a
    simp only at hsp hbl
    subst hsp
    obtain ⟨K, hK⟩ := Deep.choose_lt (α := Sk) (n := len) (p := fun i s => ∀ j, j < 33 → w.cell? (Addr.add ⟨b, off, none⟩ (i * 33 + j)) = (skL s)[j]?) (fun i him => by
      obtain ⟨cs', h3, h4⟩ := hi i (by omega)
      obtain ⟨-, hcl, hat⟩ := World.cells?_some h3
      obtain ⟨s, rfl⟩ := open_skCells hcl h4
      exact ⟨s, fun j hj => by rw [← Deep.add_add, hat j hj]⟩)
    refine ⟨(List.range len).map K, .inr ⟨b, off, cap, by simp, hbl, fun j hj i u hu => ?_⟩⟩
    have hjl : j < len := by simpa using hj
    have hj33 : i < 33 := by
      have := (List.getElem?_eq_some_iff.1 hu).1
      rwa [skL_length] at this
    have hKj := hK j hjl i hj33
    rw [Addr.add_lit] at hKj
    rw [Nat.add_assoc, hKj]
    have hg : ((List.range len).map K)[j]?.getD default = K j := by simp [hjl]
    rw [hg] at hu
    exact hu
set_option maxRecDepth 100000 in
theorem open_ratV {v : Value} {d : DataW H} {ps : List MemPlace} {r : Reach} {b2 : Nat} (hok : Value.okWide Tryd.prog w r b2 71 v) (h : DataW.Trod enc Tryd.prog w 0 spare held 71 v d ps) :
    ∃ C G vs zs, v = .agg (ratL C G vs).toArray ∧ C.length = 32 ∧ G < 18446744073709551616 ∧ Sks w.heap.size w vs zs := by
  simp only [Value.okWide, Tryd.underlying71] at hok
  obtain ⟨cs, rfl, hsz, ts, hts, -, hcell⟩ := hok
  obtain ⟨fuel, hf⟩ := h
  obtain ⟨xs, m, _, hx1, hl, hlen, hf⟩ := DataW.trod_struct Tryd.underlying71 hf
  have hl : (Value.agg cs).cells.toList.length = 34 := by rw [hl]; kernel_rfl
  have hlen : xs.length = 3 := hlen
  have hk0 : Tryd.prog.cellsOf 23 = 32 := by kernel_rfl
  have hk1 : Tryd.prog.cellsOf 37 = 1 := by kernel_rfl
  have hk2 : Tryd.prog.cellsOf 69 = 1 := by kernel_rfl
  have ht33 : (Tryd.prog.cellTypes Tryd.prog.depth 71).map (fun ts => (ts.length, ts[33]?)) = some (34, some 69) := by kernel_rfl
  rw [hts] at ht33
  have htl : ts.length = 34 := congrArg Prod.fst (Option.some.inj ht33)
  have ht3 : ts[33]? = some 69 := congrArg Prod.snd (Option.some.inj ht33)
  generalize hcs : (Value.agg cs).cells.toList = L at *
  have hcsL : cs.toList = L := hcs
  have f0 := hf 0 _ rfl
  have f1 := hf 1 _ rfl
  have f2 := hf 2 _ rfl
  rw [List.getElem?_eq_getElem (by omega)] at f0 f1 f2
  change DataW.trod _ _ _ _ _ _ _ 23 (List.take (Tryd.prog.cellsOf 23) L) = _ at f0
  change DataW.trod _ _ _ _ _ _ _ 37 (List.take (Tryd.prog.cellsOf 37) (List.drop 32 L)) = _ at f1
  change DataW.trod _ _ _ _ _ _ _ 69 (List.take (Tryd.prog.cellsOf 69) (List.drop 33 L)) = _ at f2
  rw [hk0] at f0
  rw [hk1] at f1
  rw [hk2] at f2
  obtain ⟨k, e0, hk⟩ := open_keyCells (by simp; omega) f0
  obtain ⟨z, e1, -, wz⟩ := DataW.trod_int Tryd.underlying37 f1
  have bz := bounds_u64 wz
  have e2 : (L.drop 33).take 1 = [L[33]'(by omega)] := by
    rw [List.drop_eq_getElem_cons (show 33 < L.length by omega)]
    rfl
  rw [e2] at f2
  obtain ⟨u, hu, hc⟩ := hcell 33 (L[33]'(by omega)) (by rw [← Array.getElem?_toList, hcsL]; exact List.getElem?_eq_getElem _)
  rw [htl, ht3] at hu
  cases hu
  obtain ⟨zs, hzs⟩ := open_sksV (base := 0) hc f2
  have s0 := List.take_append_drop 32 L
  have s1 := List.take_append_drop 1 (L.drop 32)
  have s2 : (L.drop 33).take 1 = L.drop 33 := List.take_of_length_le (by simp; omega)
  rw [List.drop_drop] at s1
  have hL : L = bv k ++ [.int .u64 z, L[33]'(by omega)] := by
    rw [← e0]
    conv => lhs; rw [← s0, ← s1, ← s2, e1, e2]
    rfl
  refine ⟨k, z.toNat, L[33]'(by omega), zs, ?_, hk, by omega, hzs⟩
  unfold ratL
  rw [Int.toNat_of_nonneg bz.1, ← hL, ← hcs]
  rfl
end
end Go.Proofs.YtanodhagpegbfaaDoor
