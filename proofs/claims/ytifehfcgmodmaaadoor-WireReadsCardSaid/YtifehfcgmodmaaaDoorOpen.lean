/- Arguments opened: a slice of bytes, a slice of such slices, a sum that is not done; and the table that is laid. -/
import Derived.Test.YtifehfcgmodmaaaDoorLive2
import Derived.Test.YtifehfcgmodmaaaDoorBulk
import Derived.Deep.Slices
import Derived.OpenShut
import Derived.Lib.LaidTab
import Derived.Carry
import Derived.KernelRfl
namespace Go.Proofs.YtifehfcgmodmaaaDoor
open Go Go.RowKit Go.ChangeShapes Go.WideShapes
set_option maxRecDepth 100000
section
variable {H : Type} {enc : TypeId × Value → H} {w : World} {base : Nat} {spare : Nat → Bool} {held : Bool}
theorem bn_of {z : Int} (h : (Lit.int .u8 z).wf = true) : z = bn (BitVec.ofInt 8 z) := by
  have := bounds_u8 h
  unfold bn
  rw [BitVec.toNat_ofInt]
  omega
theorem wn_of {z : Int} (h : (Lit.int .u32 z).wf = true) : z = wn (BitVec.ofInt 32 z) := by
  have := bounds_u32 h
  unfold wn
  rw [BitVec.toNat_ofInt]
  omega
theorem open_bytes {fuel : Nat} {cs : List Value} {x : DataW H × List MemPlace} (h : DataW.trod enc Tryd.prog w base spare held fuel 25 cs = some x) : ∃ v l, cs = [v] ∧ Rd w v (bv l) ∧ l.length + 1 ≤ Rows.uptoBulk x.1 := by
  rcases open_ints Tryd.underlying25 Tryd.underlying5 (by kernel_rfl) h with ⟨rfl, rfl⟩ | ⟨a, len, cap, zs, rfl, -, hl, hm, hz, rfl, hc, hw⟩
  · exact ⟨_, [], rfl, Rd.nil w, by simp [Rows.uptoBulk]⟩
  · have hzl : len ≤ zs.length := by rw [hz]; split <;> omega
    have hlen : (bv ((zs.take len).map fun z => BitVec.ofInt 8 z)).length = len := by rw [bv_length, List.length_map, List.length_take]; omega
    refine ⟨_, (zs.take len).map (fun z => BitVec.ofInt 8 z), rfl, ⟨some a, cap, by rw [hlen], by omega, hm, (fun h => by cases h), fun ad ha j u hu => ?_⟩, ?_⟩
    rotate_left 1
    · have h2 := bulks.slice_le (lits (H := H) .u8 (zs.take len)) (lits .u8 (zs.drop len))
      have h3 : (lits (H := H) .u8 (zs.take len)).length = (zs.take len).length := by simp [lits]
      simp only [List.length_map] at h2 h3 ⊢
      omega
    cases ha
    have hj : j < len := by rw [← hlen]; exact (List.getElem?_eq_some_iff.1 hu).1
    rw [hc j (by omega)]
    have hj2 : j < zs.length := by omega
    simp only [bv, List.map_map, List.getElem?_map, List.getElem?_take_of_lt hj, List.getElem?_eq_getElem hj2, Option.map_some, Function.comp, Option.some.injEq] at hu
    subst hu
    rw [List.getD, List.getElem?_eq_getElem hj2, Option.getD_some]
    rw [← bn_of (hw _ (List.getElem_mem hj2))]
theorem open_parts {fuel : Nat} {cs : List Value} {x : DataW H × List MemPlace} (h : DataW.trod enc Tryd.prog w base spare held fuel 22 cs = some x) : ∃ v ps, cs = [v] ∧ RdAll w v ps ∧ ps.length + 1 ≤ Rows.uptoBulk x.1 ∧ ps.flatten.length + 1 ≤ Rows.uptoBulk x.1 := by
  rcases Deep.open_slice1 Tryd.underlying22 (by kernel_rfl) h with ⟨rfl, rfl⟩ | ⟨a, len, cap, m, n, V, D, Pl, rfl, -, hl, hm, hz, rfl, hc⟩
  · exact ⟨_, [], rfl, RdAll.nil w, by simp [Rows.uptoBulk], by simp [Rows.uptoBulk]⟩
  · have hml : len ≤ m := by rw [hz]; split <;> omega
    obtain ⟨L, hL⟩ := Deep.choose_lt (α := List (BitVec 8)) (n := len) (p := fun i l => Rd w (V i) (bv l) ∧ l.length ≤ Rows.uptoBulk (D i)) (fun i hi => by
      obtain ⟨v, l, h1, h2, h3⟩ := open_bytes (hc i (by omega)).2
      obtain rfl := List.singleton_inj.1 h1
      exact ⟨l, h2, by simp only at h3; omega⟩)
    refine ⟨_, (List.range len).map L, rfl, ⟨(List.range len).map V, ⟨some a, cap, by simp, by simpa using hl, hm, (fun h => by cases h), fun ad ha j u hu => ?_⟩, by simp, fun i v hv => ?_⟩, ?_, ?_⟩
    · cases ha
      have hj : j < len := by have := (List.getElem?_eq_some_iff.1 hu).1; simpa using this
      simp only [List.getElem?_map, List.getElem?_range hj, Option.map_some, Option.some.injEq] at hu
      subst hu
      exact (hc j (by omega)).1
    · have hj : i < len := by have := (List.getElem?_eq_some_iff.1 hv).1; simpa using this
      simp only [List.getElem?_map, List.getElem?_range hj, Option.map_some, Option.some.injEq] at hv
      subst hv
      simpa [List.getD, List.getElem?_map, List.getElem?_range hj] using (hL i hj).1
    · have h2 := bulks.slice_le ((List.range len).map D) ((List.range (m - len)).map fun j => D (len + j))
      simp only [List.length_map, List.length_range] at h2 ⊢
      omega
    · have h2 := bulks.slice_elems ((List.range len).map D) ((List.range (m - len)).map fun j => D (len + j))
      have h3 := bulks.flatten_le D L len fun i hi => (hL i hi).2
      simp only at h2 ⊢
      omega
theorem ints_of_array {P : Program} {n : Nat} {e t : TypeId} {k : IntKind} {fuel : Nat} {cs : List Value} {x : DataW H × List MemPlace} (ht : P.underlying t = some (.array n e)) (he : P.underlying e = some (.int k)) (hc : P.cellsOf e = 1)
    (h : DataW.trod enc P w base spare held fuel t cs = some x) : ∀ i, i < n → ∃ z, cs[i]? = some (.int k z) ∧ (Lit.int k z).wf = true := by
  obtain ⟨xs, m, _, _, hl, hlen, hf⟩ := DataW.trod_array ht h
  intro i hi
  have h1 := hf i hi
  rw [hc, Nat.mul_one, List.getElem?_eq_getElem (by omega)] at h1
  obtain ⟨z, hz, _, hw⟩ := DataW.trod_int he h1
  refine ⟨z, ?_, hw⟩
  have := congrArg (·[0]?) hz
  simpa [List.getElem?_take, List.getElem?_drop] using this
/-- A sum that is not done, as a value. -/
def shaVal (s : St) (N : Nat) (vr : Value) : Value := .agg #[.int .u32 (wn s.a), .int .u32 (wn s.b), .int .u32 (wn s.c), .int .u32 (wn s.d), .int .u32 (wn s.e), .int .u32 (wn s.f), .int .u32 (wn s.g), .int .u32 (wn s.h), .int .u64 (N : Int), vr]
theorem open_shaCells {fuel : Nat} {cs : List Value} {x : DataW H × List MemPlace} (h : DataW.trod enc Tryd.prog w base spare held fuel 37 cs = some x) :
    ∃ (s : St) (N : Nat) (vr : Value) (rest : List (BitVec 8)), cs = [.int .u32 (wn s.a), .int .u32 (wn s.b), .int .u32 (wn s.c), .int .u32 (wn s.d), .int .u32 (wn s.e), .int .u32 (wn s.f), .int .u32 (wn s.g), .int .u32 (wn s.h), .int .u64 (N : Int), vr] ∧ N < 18446744073709551616 ∧ Rd w vr (bv rest) ∧ rest.length ≤ Rows.uptoBulk x.1 := by
  obtain ⟨xs, m, _, hx1, hl, hlen, hf⟩ := DataW.trod_struct Tryd.underlying37 h
  have hl : cs.length = 10 := by rw [hl]; kernel_rfl
  have hlen : xs.length = 3 := hlen
  have f0 := hf 0 _ rfl
  have f1 := hf 1 _ rfl
  have f2 := hf 2 _ rfl
  rw [List.getElem?_eq_getElem (by omega)] at f0 f1 f2
  match cs, hl with
  | [c0, c1, c2, c3, c4, c5, c6, c7, c8, c9], _ =>
    have g := ints_of_array Tryd.underlying34 Tryd.underlying33 (by kernel_rfl) f0
    have hk1 : Tryd.prog.cellsOf 35 = 1 := by kernel_rfl
    have hk2 : Tryd.prog.cellsOf 25 = 1 := by kernel_rfl
    obtain ⟨z0, e0, w0⟩ := g 0 (by omega)
    obtain ⟨z1, e1, w1⟩ := g 1 (by omega)
    obtain ⟨z2, e2, w2⟩ := g 2 (by omega)
    obtain ⟨z3, e3, w3⟩ := g 3 (by omega)
    obtain ⟨z4, e4, w4⟩ := g 4 (by omega)
    obtain ⟨z5, e5, w5⟩ := g 5 (by omega)
    obtain ⟨z6, e6, w6⟩ := g 6 (by omega)
    obtain ⟨z7, e7, w7⟩ := g 7 (by omega)
    obtain ⟨z8, e8, -, w8⟩ := DataW.trod_int Tryd.underlying35 f1
    obtain ⟨v, l, e9, hr, hbl⟩ := open_bytes f2
    simp [hk1] at e8
    simp [hk2] at e9
    have hk : Tryd.prog.cellsOf 34 = 8 := by kernel_rfl
    simp [hk] at e0 e1 e2 e3 e4 e5 e6 e7
    subst e0 e1 e2 e3 e4 e5 e6 e7 e8 e9
    have b8 := bounds_u64 w8
    refine ⟨⟨BitVec.ofInt 32 z0, BitVec.ofInt 32 z1, BitVec.ofInt 32 z2, BitVec.ofInt 32 z3, BitVec.ofInt 32 z4, BitVec.ofInt 32 z5, BitVec.ofInt 32 z6, BitVec.ofInt 32 z7⟩, z8.toNat, c9, l, ?_, by omega, hr, ?_⟩
    rotate_left 1
    · have h4 : xs[2].1 ∈ xs.map (·.1) := List.mem_map.2 ⟨_, List.getElem_mem _, rfl⟩
      have h5 := bulks.part_le h4
      rw [hx1]
      simp only [Rows.uptoBulk]
      omega
    rw [← wn_of w0, ← wn_of w1, ← wn_of w2, ← wn_of w3, ← wn_of w4, ← wn_of w5, ← wn_of w6, ← wn_of w7, Int.toNat_of_nonneg b8.1]
theorem open_sha {v : Value} {d : DataW H} {ps : List MemPlace} {W2 : World} {r : Reach} (hok : Value.okWide Tryd.prog W2 r base 37 v) (h : DataW.Trod enc Tryd.prog w 0 spare held 37 v d ps) :
    ∃ (s : St) (N : Nat) (vr : Value) (rest : List (BitVec 8)), v = shaVal s N vr ∧ N < 18446744073709551616 ∧ Rd w vr (bv rest) ∧ rest.length ≤ Rows.uptoBulk d := by
  obtain ⟨cs, rfl, -⟩ := okWide_struct Tryd.underlying37 hok
  obtain ⟨fuel, hf⟩ := h
  obtain ⟨s, N, vr, rest, h1, h2, h3, h4⟩ := open_shaCells hf
  refine ⟨s, N, vr, rest, ?_, h2, h3, h4⟩
  unfold shaVal
  have : cs.toList = _ := h1
  rw [← this]
theorem open_bytesV {v : Value} {d : DataW H} {ps : List MemPlace} {W2 : World} {r : Reach} (hok : Value.okWide Tryd.prog W2 r base 25 v) (h : DataW.Trod enc Tryd.prog w 0 spare held 25 v d ps) : ∃ l, Rd w v (bv l) ∧ l.length + 1 ≤ Rows.uptoBulk d := by
  obtain ⟨a, n, c, rfl⟩ := okWide_slice Tryd.underlying25 hok
  obtain ⟨fuel, hf⟩ := h
  obtain ⟨v, l, h1, h2⟩ := open_bytes hf
  obtain rfl := List.singleton_inj.1 h1
  exact ⟨l, h2⟩
theorem open_partsV {v : Value} {d : DataW H} {ps : List MemPlace} {W2 : World} {r : Reach} (hok : Value.okWide Tryd.prog W2 r base 22 v) (h : DataW.Trod enc Tryd.prog w 0 spare held 22 v d ps) : ∃ l, RdAll w v l ∧ l.length + 1 ≤ Rows.uptoBulk d ∧ l.flatten.length + 1 ≤ Rows.uptoBulk d := by
  obtain ⟨a, n, c, rfl⟩ := okWide_slice Tryd.underlying22 hok
  obtain ⟨fuel, hf⟩ := h
  obtain ⟨v, l, h1, h2⟩ := open_parts hf
  obtain rfl := List.singleton_inj.1 h1
  exact ⟨l, h2⟩
end
theorem laidOut_all : laidOutB Tryd.prog = true := by kernel_rfl
/-- The table, from what is laid. -/
theorem tabK_of {W : World} {name : String} {g : Nat} (hg : Tryd.prog.globalNamed name = some g) (h : Lib.TabIs Tryd.prog W name .u32 (k0.map wn)) : TabK K0 g W := by
  unfold Lib.TabIs World.var? at h
  rw [hg] at h
  simp only [Option.bind_some] at h
  split at h
  next cs T fr hb =>
    obtain rfl := Option.some.inj h
    refine ⟨T, _, fr, hb, by decide, fun i hi => ?_⟩
    have hi2 : i < k0.length := hi
    unfold K0
    simp [List.getD, List.getElem?_eq_getElem hi2]
  next => cases h
end Go.Proofs.YtifehfcgmodmaaaDoor
