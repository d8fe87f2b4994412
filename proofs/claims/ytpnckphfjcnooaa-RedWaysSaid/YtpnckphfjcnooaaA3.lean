import Derived.Test.YtpnckphfjcnooaaA2
import Derived.Lib.SlBytesConst
import Derived.Test.YtpnckphfjcnooaaRows
import Derived.Deep.Slices
import Derived.OpenShut
import Derived.Lib.LaidTab
import Derived.Carry
import Derived.KernelRfl
import Derived.Test.YtpnckphfjcnooaaA1
namespace Go.Proofs.Ytpnckphfjcnooaa
open Go Go.RowKit
end Go.Proofs.Ytpnckphfjcnooaa
namespace Go.Proofs.Ytpnckphfjcnooaa
def k0 : List (BitVec 32) := [
  0x428a2f98, 0x71374491, 0xb5c0fbcf, 0xe9b5dba5, 0x3956c25b, 0x59f111f1, 0x923f82a4, 0xab1c5ed5,
  0xd807aa98, 0x12835b01, 0x243185be, 0x550c7dc3, 0x72be5d74, 0x80deb1fe, 0x9bdc06a7, 0xc19bf174,
  0xe49b69c1, 0xefbe4786, 0x0fc19dc6, 0x240ca1cc, 0x2de92c6f, 0x4a7484aa, 0x5cb0a9dc, 0x76f988da,
  0x983e5152, 0xa831c66d, 0xb00327c8, 0xbf597fc7, 0xc6e00bf3, 0xd5a79147, 0x06ca6351, 0x14292967,
  0x27b70a85, 0x2e1b2138, 0x4d2c6dfc, 0x53380d13, 0x650a7354, 0x766a0abb, 0x81c2c92e, 0x92722c85,
  0xa2bfe8a1, 0xa81a664b, 0xc24b8b70, 0xc76c51a3, 0xd192e819, 0xd6990624, 0xf40e3585, 0x106aa070,
  0x19a4c116, 0x1e376c08, 0x2748774c, 0x34b0bcb5, 0x391c0cb3, 0x4ed8aa4a, 0x5b9cca4f, 0x682e6ff3,
  0x748f82ee, 0x78a5636f, 0x84c87814, 0x8cc70208, 0x90befffa, 0xa4506ceb, 0xbef9a3f7, 0xc67178f2]
def K0 (i : Nat) : BitVec 32 := k0.getD i 0
set_option maxRecDepth 100000
end Go.Proofs.Ytpnckphfjcnooaa
namespace Go.Proofs.Ytpnckphfjcnooaa
open Go Go.RowKit
theorem RdAll.nil (w : World) : RdAll w (.slice none 0 0) [] := ⟨[], Rd.nil w, rfl, fun _ _ h => by cases h⟩
theorem Rd.litF (w : World) (cs : List Value) (t : Nat) (fr : Nat × Nat) (hm : cs.length ≤ maxLen) : Rd (w.alloc (.cells cs.toArray t fr)) (.slice (some ⟨w.heap.size, 0, none⟩) cs.length cs.length) cs := by
  refine ⟨_, cs.length, rfl, Nat.le_refl _, by unfold maxLen at hm; omega, fun e => (by cases e), fun ad ha j u hu => ?_⟩
  cases ha
  rw [Addr.add_lit, cell_of_row _ _ _ _ _ _ (heap_alloc_new w _)]
  simpa using hu
theorem RdAll.one_lit (w : World) (l : List (BitVec 8)) (t t' : Nat) (fr : Nat × Nat) (hl : l.length ≤ maxLen := by decide) : RdAll ((w.alloc (.cells (bv l).toArray t fr)).alloc (.cells #[.slice (some ⟨w.heap.size, 0, none⟩) l.length l.length] t')) (.slice (some ⟨w.heap.size + 1, 0, none⟩) 1 1) [l] := by
  have h1 := Rd.lit (w.alloc (.cells (bv l).toArray t fr)) #[.slice (some ⟨w.heap.size, 0, none⟩) l.length l.length] t' 1 rfl (by decide)
  rw [World.size_alloc] at h1
  have h2 := (Rd.litF w (bv l) t fr (by rw [bv_length]; exact hl)).grow ((Below.refl _ _).alloc (Nat.le_refl _) (.cells #[.slice (some ⟨w.heap.size, 0, none⟩) l.length l.length] t'))
  refine ⟨_, h1, rfl, fun i v hv => ?_⟩
  cases i with
  | zero => cases hv; rw [bv_length] at h2; exact h2
  | succ i => simp at hv
end Go.Proofs.Ytpnckphfjcnooaa
namespace Go.Proofs.Ytpnckphfjcnooaa
open Go Go.RowKit
/-- A slice of one byte slice, as the walk writes it. -/
theorem RdAll.one (w : World) (v : Value) (l : List (BitVec 8)) (t : Nat) (h : Rd w v (bv l)) : RdAll (w.alloc (.cells #[v] t)) (.slice (some ⟨w.heap.size, 0, none⟩) 1 1) [l] := by
  refine ⟨[v], Rd.litF w [v] t (0, 0) (by show 1 ≤ maxLen; decide), rfl, fun i u hu => ?_⟩
  cases i with
  | zero => cases hu; exact h.grow ((Below.refl _ _).alloc (Nat.le_refl _) _)
  | succ i => simp at hu
end Go.Proofs.Ytpnckphfjcnooaa
/- What an 'Upto' statement's bound gives (begun from the guide's UptoLemmas.lean). -/
namespace Go.Proofs.Ytpnckphfjcnooaa.bulks

theorem one_le {H : Type} (d : DataW H) : 1 ≤ Rows.uptoBulk d := by
  cases d with
  | lit l => cases l <;> simp [Rows.uptoBulk]
  | nil => simp [Rows.uptoBulk]
  | ptr d => simp [Rows.uptoBulk]
  | slice elems spare => simp [Rows.uptoBulk]
  | agg parts => simp [Rows.uptoBulk]
  | iface t d => simp [Rows.uptoBulk]
  | map entries => simp [Rows.uptoBulk]
  | held h => simp [Rows.uptoBulk]

/-- a part's bulk is at most the whole's -/
theorem part_le {H : Type} {d : DataW H} {l : List (DataW H)} (h : d ∈ l) : Rows.uptoBulk d ≤ Rows.uptoBulkAll l := by
  induction l with
  | nil => cases h
  | cons x r ih =>
    simp only [Rows.uptoBulkAll]
    cases List.mem_cons.1 h with
    | inl e => subst e; omega
    | inr e => have := ih e; omega

theorem append {H : Type} (l r : List (DataW H)) : Rows.uptoBulkAll (l ++ r) = Rows.uptoBulkAll l + Rows.uptoBulkAll r := by
  induction l with
  | nil => simp [Rows.uptoBulkAll]
  | cons x l ih => simp only [List.cons_append, Rows.uptoBulkAll, ih]; omega

/-- so many values at the most -/
theorem length_le {H : Type} (l : List (DataW H)) : l.length ≤ Rows.uptoBulkAll l := by
  induction l with
  | nil => simp [Rows.uptoBulkAll]
  | cons x r ih => have := one_le x; simp only [Rows.uptoBulkAll, List.length_cons]; omega

/-- a slice's places, and what they hold -/
theorem slice_le {H : Type} (elems spare : List (DataW H)) : elems.length + spare.length + 1 ≤ Rows.uptoBulk (.slice elems spare) := by
  have h1 := length_le elems
  have h2 := length_le spare
  simp only [Rows.uptoBulk]
  omega
end Go.Proofs.Ytpnckphfjcnooaa.bulks
/- Arguments opened: a slice of bytes, a slice of such slices, a sum that is not done; and the table that is laid. -/
namespace Go.Proofs.Ytpnckphfjcnooaa
open Go Go.RowKit Go.ChangeShapes Go.WideShapes
set_option maxRecDepth 100000
section
variable {H : Type} {enc : TypeId × Value → H} {w : World} {base : Nat} {spare : Nat → Bool} {held : Bool}
theorem bn_of {z : Int} (h : (Lit.int .u8 z).wf = true) : z = bn (BitVec.ofInt 8 z) := by
  have := bounds_u8 h
  unfold bn
  rw [BitVec.toNat_ofInt]
  omega
theorem open_bytes {fuel : Nat} {cs : List Value} {x : DataW H × List MemPlace} (h : DataW.trod enc Try.prog w base spare held fuel 32 cs = some x) : ∃ v l, cs = [v] ∧ Rd w v (bv l) ∧ l.length + 1 ≤ Rows.uptoBulk x.1 := by
  rcases open_ints Try.underlying32 Try.underlying5 (by kernel_rfl) h with ⟨rfl, rfl⟩ | ⟨a, len, cap, zs, rfl, -, hl, hm, hz, rfl, hc, hw⟩
  · exact ⟨_, [], rfl, Rd.nil w, by simp [Rows.uptoBulk]⟩
  · have hzl : len ≤ zs.length := by rw [hz]; split <;> omega
    have hlen : (bv ((zs.take len).map fun z => BitVec.ofInt 8 z)).length = len := by rw [bv_length, List.length_map, List.length_take]; omega
    refine ⟨_, (zs.take len).map (fun z => BitVec.ofInt 8 z), rfl, ⟨some a, cap, by rw [hlen], by omega, hm, (fun h => by cases h), fun ad ha j u hu => ?_⟩, ?_⟩
    rotate_left 1
    · have h2 := bulks.slice_le (lits (H := H) .u8 (zs.take len)) (lits .u8 (zs.drop len))
      have h3 : (lits (H := H) .u8 (zs.take len)).length = (zs.take len).length := by simp [lits]
      simp only [List.length_map] at h2 h3 ⊢
      omega
    cases ha
    have hj : j < len := by rw [← hlen]; exact (List.getElem?_eq_some_iff.1 hu).1
    rw [hc j (by omega)]
    have hj2 : j < zs.length := by omega
    simp only [bv, List.map_map, List.getElem?_map, List.getElem?_take_of_lt hj, List.getElem?_eq_getElem hj2, Option.map_some, Function.comp, Option.some.injEq] at hu
    subst hu
    rw [List.getD, List.getElem?_eq_getElem hj2, Option.getD_some]
    rw [← bn_of (hw _ (List.getElem_mem hj2))]
theorem open_bytesV {v : Value} {d : DataW H} {ps : List MemPlace} {W2 : World} {r : Reach} (hok : Value.okWide Try.prog W2 r base 32 v) (h : DataW.Trod enc Try.prog w 0 spare held 32 v d ps) : ∃ l, Rd w v (bv l) ∧ l.length + 1 ≤ Rows.uptoBulk d := by
  obtain ⟨a, n, c, rfl⟩ := okWide_slice Try.underlying32 hok
  obtain ⟨fuel, hf⟩ := h
  obtain ⟨v, l, h1, h2⟩ := open_bytes hf
  obtain rfl := List.singleton_inj.1 h1
  exact ⟨l, h2⟩
end
theorem laidOut_all : laidOutB Try.prog = true := by kernel_rfl
end Go.Proofs.Ytpnckphfjcnooaa
/- Slices cut at a number: what the walk's slice instruction hands back, and what it reads as. Of whatever program. -/
namespace Go.Proofs.Ytpnckphfjcnooaa
open Go Go.RowKit
theorem cut_to {P : Program} {t e : TypeId} (ht : P.underlying t = some (.slice e)) {ao : Option Addr} {len cap : Nat} {n : Nat} (hn : n ≤ cap) (w : World) {i : TypeInfo} (hi : P.info? e = some i) :
    (Instr.sliceAt t (.slice ao len cap) none (some (.int .i64 (n : Int))) none).run P w = .ok (.slice ao n cap) w := by
  have he : P.elem t = e := by simp [Program.elem, ht]
  rw [run_sliceAt_slice (w := w) t _ _ _ _ (by rw [he]; exact ht), run_slice_h w t ao len cap (by rw [he]; exact ht) .i64 (n : Int) (by omega) (by omega), he, run_sizeOf w hi]
  simp only [Result.andThen, sliced, Int.toNat_natCast, Nat.zero_mul, Nat.sub_zero]
  cases ao <;> simp [Addr.add]
theorem cut_from {P : Program} {t e : TypeId} (ht : P.underlying t = some (.slice e)) {ao : Option Addr} {len cap : Nat} {n : Nat} (hn : n ≤ len) (w : World) {i : TypeInfo} (hi : P.info? e = some i) (h1 : i.size = 1) :
    (Instr.sliceAt t (.slice ao len cap) (some (.int .i64 (n : Int))) none none).run P w = .ok (.slice (if cap = n then ao else ao.map (·.add n)) (len - n) (cap - n)) w := by
  have he : P.elem t = e := by simp [Program.elem, ht]
  have hc : P.cellsOf e = 1 := by simp [Program.cellsOf, hi, h1]
  rw [run_sliceAt_slice (w := w) t _ _ _ _ (by rw [he]; exact ht), run_slice_l w t ao len cap (by rw [he]; exact ht) .i64 (n : Int) (by omega) (by omega), he, run_sizeOf w hi]
  simp only [Result.andThen, sliced, Int.toNat_natCast, hc, Nat.mul_one]
theorem Rd.to {w : World} {ao : Option Addr} {cap len : Nat} {xs : List Value} (h : Rd w (.slice ao len cap) xs) {n : Nat} (hn : n ≤ xs.length) : Rd w (.slice ao n cap) (xs.take n) := by
  obtain ⟨ao', cap', hv, h1, h2, h3, h4⟩ := h
  cases hv
  refine ⟨ao, cap, by rw [List.length_take, Nat.min_eq_left hn], by rw [List.length_take]; omega, h2, h3, fun ad ha j u hu => ?_⟩
  refine h4 ad ha j u ?_
  rw [List.getElem?_take] at hu
  split at hu
  · exact hu
  · cases hu
theorem Rd.from {w : World} {ao : Option Addr} {cap len : Nat} {xs : List Value} (h : Rd w (.slice ao len cap) xs) {n : Nat} (hn : n ≤ xs.length) : Rd w (.slice (if cap = n then ao else ao.map (·.add n)) (len - n) (cap - n)) (xs.drop n) := by
  obtain ⟨ao', cap', hv, h1, h2, h3, h4⟩ := h
  cases hv
  refine ⟨_, cap - n, by rw [List.length_drop], by rw [List.length_drop]; omega, by omega, fun e => ?_, fun ad ha j u hu => ?_⟩
  · by_cases hc : cap = n
    · omega
    · rw [if_neg hc, Option.map_eq_none_iff] at e
      have := h3 e
      omega
  · rw [List.getElem?_drop] at hu
    have hj : n + j < xs.length := (List.getElem?_eq_some_iff.1 hu).1
    rw [if_neg (by omega)] at ha
    obtain ⟨a0, ha0, rfl⟩ := Option.map_eq_some_iff.1 ha
    have := h4 a0 ha0 (n + j) u hu
    rw [show (a0.add n).add j = a0.add (n + j) by unfold Addr.add; by_cases h0 : n = 0 <;> by_cases h1 : j = 0 <;> simp [h0, h1, Nat.add_assoc]]
    exact this
theorem Rd.sl {w : World} {ao : Option Addr} {cap len : Nat} {xs : List Value} (h : Rd w (.slice ao len cap) xs) : len = xs.length ∧ xs.length ≤ cap ∧ cap ≤ 9223372036854775807 := by
  obtain ⟨ao', cap', hv, h1, h2, h3, h4⟩ := h
  cases hv
  exact ⟨rfl, h1, h2⟩
theorem cut_from_ex {P : Program} {t e : TypeId} (ht : P.underlying t = some (.slice e)) {i : TypeInfo} (hi : P.info? e = some i) (h1 : i.size = 1) {w : World} {ao : Option Addr} {cap len : Nat} {xs : List Value} (h : Rd w (.slice ao len cap) xs) {n : Nat} (hn : n ≤ xs.length) :
    ∃ ax, (∀ wx, (Instr.slice t (.slice ao len cap) (some (.int .i64 (n : Int))) none none).run P wx = .ok (.slice ax (len - n) (cap - n)) wx) ∧ Rd w (.slice ax (len - n) (cap - n)) (xs.drop n) :=
  ⟨_, fun wx => by rw [← run_sliceAt_slice wx t _ _ _ _ (by rw [show P.elem t = e by simp [Program.elem, ht]]; exact ht)]; exact cut_from ht (by have := h.sl; omega) wx hi h1, h.from hn⟩
end Go.Proofs.Ytpnckphfjcnooaa
/- A region that draws its order, walked once in the order of the text, where some operations make a block of their own (an allocation, a slice written out): these may stand anywhere among the calls. Of whatever program. -/
namespace Go.Proofs.Ytpnckphfjcnooaa
open Go Go.RowKit
section
variable {P : Program} {ops : Array Oper} {w0 : World}
/-- A later world: what was there stands. -/
def Aft (w w' : World) : Prop := Below w.heap.size w w'
theorem Aft.refl (w : World) : Aft w w := Below.refl _ _
theorem Aft.trans {a b c : World} (h : Aft a b) (k : Aft b c) : Aft a c := Below.trans h (Below.mono k (Below.size h))
theorem Aft.alloc (w : World) (o : Obj) : Aft w (w.alloc o) := (Below.refl _ _).alloc (Nat.le_refl _) o
theorem Aft.get {w w' : World} (h : Aft w w') {g : Nat} {o : Obj} (hg : w.heap[g]? = some o) : w'.heap[g]? = some o := (Below.block h g (heap_lt hg)).trans hg
/-- It makes one block, and hands back a value that hangs on the block's number alone. -/
def fAt (P : Program) (o : Oper) (a : Act) (w : World) (obj : Obj) (F : Nat → Value) : Prop := (execOp a.eval o).run P w = .ok (.value (F w.heap.size)) (w.alloc obj)
def pAt (P : Program) (o : Oper) (a : Act) (w : World) (F : Nat → Value) : Option Obj → Prop
  | none => ∀ g, qAt P o a w (F g)
  | some obj => fAt P o a w obj F
def holds (w0 : World) (g : Nat) (w : World) : Option Obj → Prop
  | none => True
  | some obj => w0.heap.size ≤ g ∧ w.heap[g]? = some obj
theorem holds.aft {g : Nat} {w w' : World} {ob : Option Obj} (h : holds w0 g w ob) (hs : Aft w w') : holds w0 g w' ob := by
  cases ob with
  | none => trivial
  | some obj => exact ⟨h.1, hs.get h.2⟩
theorem pAt_put {o : Oper} (hs : ∀ cs b, o.op ≠ .select cs b) {a : Act} {w : World} {dst : Option Tmp} {u : Value} {F : Nat → Value} {ob : Option Obj} (h1 : ∀ d, dst = some d → d ∉ o.looksAt ops) : pAt P o (a.put dst u) w F ob ↔ pAt P o a w F ob := by
  cases ob with
  | none => exact forall_congr' fun g => qAt_put (ops := ops) hs h1
  | some obj => unfold pAt fAt; rw [execOp_put (ops := ops) o hs a dst u h1]
theorem pAt_defers {o : Oper} {a : Act} {w : World} {F : Nat → Value} {ob : Option Obj} (b : List Deferred) : pAt P o { a with defers := b } w F ob ↔ pAt P o a w F ob := by
  cases ob with
  | none => exact forall_congr' fun g => qAt_defers b
  | some obj =>
    have e : (({ a with defers := b } : Act).eval) = a.eval := by funext x; cases x <;> rfl
    unfold pAt fAt; rw [e]
theorem grow_to (w0 : World) : ∀ n : Nat, ∃ w1, Aft w0 w1 ∧ w1.heap.size = w0.heap.size + n
  | 0 => ⟨w0, Aft.refl _, rfl⟩
  | n + 1 => by
    obtain ⟨w1, h1, h2⟩ := grow_to w0 n
    exact ⟨w1.alloc (.cells #[] 0), h1.trans (Aft.alloc _ _), by rw [World.size_alloc]; omega⟩
theorem alloc_ne (w : World) (o : Obj) : w.alloc o ≠ w := fun h => by
  have := congrArg (fun w => w.heap.size) h
  simp only [World.size_alloc] at this
  omega
theorem alloc_inj {w : World} {o o' : Obj} (h : w.alloc o = w.alloc o') : o = o' := by
  have := heap_alloc_new w o
  rw [h, heap_alloc_new w o'] at this
  exact (Option.some.inj this).symm
/-- What an operation makes, and what it hands back, is one thing. -/
theorem pAt_unique {o : Oper} {a : Act} {F F' : Nat → Value} {ob ob' : Option Obj} (h : ∀ w1, Aft w0 w1 → pAt P o a w1 F ob) (k : ∀ w1, Aft w0 w1 → pAt P o a w1 F' ob') : ob = ob' ∧ ∀ g w, holds w0 g w ob → F g = F' g := by
  cases ob with
  | none =>
    cases ob' with
    | none => exact ⟨rfl, fun g _ _ => qAt_unique (h w0 (Aft.refl _) g) (k w0 (Aft.refl _) g)⟩
    | some obj' =>
      exfalso
      have h1 := h w0 (Aft.refl _) 0
      have k1 := k w0 (Aft.refl _)
      unfold pAt fAt at k1
      rcases h1 with h1 | ⟨h1, _⟩
      · rw [k1] at h1; simp only [Result.ok.injEq] at h1; exact alloc_ne _ _ h1.2
      · rw [k1] at h1; simp at h1
  | some obj =>
    cases ob' with
    | none =>
      exfalso
      have h1 := k w0 (Aft.refl _) 0
      have k1 := h w0 (Aft.refl _)
      unfold pAt fAt at k1
      rcases h1 with h1 | ⟨h1, _⟩
      · rw [k1] at h1; simp only [Result.ok.injEq] at h1; exact alloc_ne _ _ h1.2
      · rw [k1] at h1; simp at h1
    | some obj' =>
      have each : ∀ w1, Aft w0 w1 → F w1.heap.size = F' w1.heap.size ∧ obj = obj' := by
        intro w1 hw
        have h1 := h w1 hw
        have k1 := k w1 hw
        unfold pAt fAt at h1 k1
        rw [k1] at h1
        simp only [Result.ok.injEq, Next.value.injEq] at h1
        exact ⟨h1.1.symm, (alloc_inj h1.2).symm⟩
      refine ⟨congrArg some (each w0 (Aft.refl _)).2, fun g w hh => ?_⟩
      obtain ⟨w1, hw, hz⟩ := grow_to w0 (g - w0.heap.size)
      have := (each w1 hw).1
      rw [hz, Nat.add_sub_cancel' hh.1] at this
      exact this
/-- What an operation leaves: of kind 3 it may write what the region has made. -/
def Leaves (w0 : World) (kd : Nat) (w w' : World) : Prop := if kd = 3 then Aft w0 w' else Aft w w'
theorem Leaves.base {w0 w w' : World} {kd : Nat} (h : Leaves w0 kd w w') (hC : Aft w0 w) : Aft w0 w' := by
  unfold Leaves at h
  split at h
  · exact h
  · exact hC.trans h
/-- One operation of the prefix: of kind 2 or 3 it turns the world as it will; else it reads, or makes a block of its own. -/
def stepF (P : Program) (ops : Array Oper) (w0 : World) (kd : Nat) (o : Oper) (K : Act → World → Prop) (a : Act) (w : World) : Prop :=
  if Region.wanted o (yielded ops a.tmps) = true then
    (if 2 ≤ kd then ∀ w1, Aft w w1 → o.wp P a w1 (fun a' w' => Leaves w0 kd w1 w' ∧ K a' w') noOut
     else ∃ ob F, (kd = 0 → ob = none) ∧ (∀ w1, Aft w0 w1 → pAt P o a w1 F ob) ∧ ∀ w1 g, Aft w w1 → holds w0 g w1 ob → K (a.put o.dst (F g)) w1)
  else K (a.put o.dst undef) w
/-- It holds in later worlds, too. -/
def Up (K : Act → World → Prop) : Prop := ∀ a w w1, Aft w w1 → K a w → K a w1
theorem stepF_up {kd : Nat} {o : Oper} {K : Act → World → Prop} (hK : Up K) : Up (stepF P ops w0 kd o K) := by
  intro a w w1 hw h
  unfold stepF at *
  split
  · rename_i hg
    rw [if_pos hg] at h
    split
    · rename_i he
      rw [if_pos he] at h
      exact fun w2 h2 => h w2 (hw.trans h2)
    · rename_i he
      rw [if_neg he] at h
      obtain ⟨ob, F, hz, h1, h2⟩ := h
      exact ⟨ob, F, hz, h1, fun w2 g hw2 hh => h2 w2 g (hw.trans hw2) hh⟩
  · rename_i hg
    rw [if_neg hg] at h
    exact hK _ _ _ hw h
theorem stepF_mono {kd : Nat} {o : Oper} {K K' : Act → World → Prop} (h : ∀ a w, Aft w0 w → K a w → K' a w) {a : Act} {w : World} (hC : Aft w0 w) (hs : stepF P ops w0 kd o K a w) : stepF P ops w0 kd o K' a w := by
  unfold stepF at *
  split
  · rename_i hw
    rw [if_pos hw] at hs
    split
    · rename_i he
      rw [if_pos he] at hs
      exact fun w1 h1 => Oper.wp_mono (fun a w ⟨c, k⟩ => ⟨c, h a w (c.base (hC.trans h1)) k⟩) (hs w1 h1)
    · rename_i he
      rw [if_neg he] at hs
      obtain ⟨ob, F, hz, h1, h2⟩ := hs
      exact ⟨ob, F, hz, h1, fun w1 g hw1 hh => h _ _ (hC.trans hw1) (h2 w1 g hw1 hh)⟩
  · rename_i hw
    rw [if_neg hw] at hs
    exact h _ _ hC hs
/-- A block made now. -/
theorem holds_now {w : World} (hC : Aft w0 w) (ob : Option Obj) : ∃ w1, Aft w w1 ∧ ∃ g, holds w0 g w1 ob := by
  cases ob with
  | none => exact ⟨w, Aft.refl _, 0, trivial⟩
  | some obj => exact ⟨w.alloc obj, Aft.alloc _ _, w.heap.size, Below.size hC, heap_alloc_new _ _⟩
theorem stepF_swap {ki kj : Nat} {oi oj : Oper} (hsi : ∀ cs b, oi.op ≠ .select cs b) (hsj : ∀ cs b, oj.op ≠ .select cs b) (hap : oi.apart ops oj = true) (hE : (2 ≤ kj → ki = 0) ∧ (ki = 3 → kj = 0))
    {K : Act → World → Prop} {a : Act} {w : World} (hC : Aft w0 w) (hK : Up K) (h : stepF P ops w0 ki oi (stepF P ops w0 kj oj K) a w) : stepF P ops w0 kj oj (stepF P ops w0 ki oi K) a w := by
  obtain ⟨h1, h2, h3⟩ := Oper.apart_spec hap
  have h2' : ∀ d, oj.dst = some d → oi.dst ≠ some d := fun d hd he => h2 d he hd
  have wj : ∀ (a : Act) v, Region.wanted oj (yielded ops (a.put oi.dst v).tmps) = Region.wanted oj (yielded ops a.tmps) := fun a v => wanted_put oj a oi.dst v h1
  have wi : ∀ (a : Act) v, Region.wanted oi (yielded ops (a.put oj.dst v).tmps) = Region.wanted oi (yielded ops a.tmps) := fun a v => wanted_put oi a oj.dst v h3
  have pc : ∀ (a : Act) v u, (a.put oi.dst v).put oj.dst u = (a.put oj.dst u).put oi.dst v := fun a v u => Act.put_comm a v u h2
  by_cases hwi : Region.wanted oi (yielded ops a.tmps) = true
  · by_cases hei : 2 ≤ ki
    · have hej : ¬ 2 ≤ kj := by omega
      unfold stepF at h
      rw [if_pos hwi, if_pos hei] at h
      by_cases hwj : Region.wanted oj (yielded ops a.tmps) = true
      · have key : ∀ b v w', stepF P ops w0 kj oj K (({ a with defers := b } : Act).put oi.dst v) w' → ∃ ob F, (kj = 0 → ob = none) ∧ (∀ w1, Aft w0 w1 → pAt P oj a w1 F ob) ∧ ∀ w1 g, Aft w' w1 → holds w0 g w1 ob → K ((({ a with defers := b } : Act).put oi.dst v).put oj.dst (F g)) w1 := by
          intro b v w' hs
          unfold stepF at hs
          rw [if_pos (by rw [wj]; exact hwj), if_neg hej] at hs
          obtain ⟨ob, F, hz, hu, hk⟩ := hs
          exact ⟨ob, F, hz, fun w1 hw1 => (pAt_defers b).1 ((pAt_put (ops := ops) hsj h1).1 (hu w1 hw1)), hk⟩
        obtain ⟨b, v, w', hs⟩ := wp_some (h w (Aft.refl _))
        obtain ⟨ob, F, hz, hu, _⟩ := key b v w' hs.2
        unfold stepF
        rw [if_pos hwj, if_neg hej]
        refine ⟨ob, F, hz, hu, fun w1 g hw1 hh => ?_⟩
        rw [if_pos (by rw [wi]; exact hwi), if_pos hei]
        intro w2 hw2
        refine (wp_put (ops := ops) hsi h3 h2').2 (wp_mono_put (fun b v w' hs => ?_) (h w2 (hw1.trans hw2)))
        obtain ⟨hc, hs⟩ := hs
        obtain ⟨ob', F', _, hu', hk⟩ := key b v w' hs
        obtain ⟨rfl, hF⟩ := pAt_unique hu hu'
        refine ⟨hc, ?_⟩
        have hh' : holds w0 g w' ob := by
          by_cases h3 : ki = 3
          · rw [hz (hE.2 h3)]; trivial
          · unfold Leaves at hc
            rw [if_neg h3] at hc
            exact hh.aft (hw2.trans hc)
        rw [hF g _ hh']
        exact hk w' g (Aft.refl _) hh'
      · unfold stepF
        rw [if_neg hwj, if_pos (by rw [wi]; exact hwi), if_pos hei]
        intro w1 hw1
        refine (wp_put (ops := ops) hsi h3 h2').2 (wp_mono_put (fun b v w' hs => ?_) (h w1 hw1))
        obtain ⟨hc, hs⟩ := hs
        rw [if_neg (by rw [wj]; exact hwj)] at hs
        exact ⟨hc, hs⟩
    · unfold stepF at h
      rw [if_pos hwi, if_neg hei] at h
      obtain ⟨ob, F, hz, hv, h⟩ := h
      by_cases hwj : Region.wanted oj (yielded ops a.tmps) = true
      · by_cases hej : 2 ≤ kj
        · have hki : ki = 0 := hE.1 hej
          obtain rfl := hz hki
          unfold stepF
          rw [if_pos hwj, if_pos hej]
          intro w1 hw1
          have h4 := h w1 0 hw1 trivial
          rw [if_pos (by rw [wj]; exact hwj), if_pos hej] at h4
          refine wp_mono_put (fun b u w' hs => ?_) ((wp_put (ops := ops) hsj h1 h2).1 (h4 w1 (Aft.refl _)))
          obtain ⟨hc, hk⟩ := hs
          refine ⟨hc, ?_⟩
          rw [if_pos (by rw [wi]; exact hwi), if_neg hei]
          refine ⟨none, F, fun _ => rfl, fun w2 hw2 => (pAt_put (ops := ops) hsi h3).2 ((pAt_defers b).2 (hv w2 hw2)), fun w2 g hw2 _ => ?_⟩
          rw [qAt_unique (hv w hC g) (hv w hC 0)]
          exact hK _ _ _ hw2 hk
        · obtain ⟨wn, hwn, gn, hgn⟩ := holds_now hC ob
          have h4 := h wn gn hwn hgn
          rw [if_pos (by rw [wj]; exact hwj), if_neg hej] at h4
          obtain ⟨oj', Fj, hzj, hj1, _⟩ := h4
          have hj2 : ∀ w1, Aft w0 w1 → pAt P oj a w1 Fj oj' := fun w1 hw1 => (pAt_put (ops := ops) hsj h1).1 (hj1 w1 hw1)
          unfold stepF
          rw [if_pos hwj, if_neg hej]
          refine ⟨oj', Fj, hzj, hj2, fun w1 g hw1 hh => ?_⟩
          rw [if_pos (by rw [wi]; exact hwi), if_neg hei]
          refine ⟨ob, F, hz, fun w2 hw2 => (pAt_put (ops := ops) hsi h3).2 (hv w2 hw2), fun w2 g2 hw2 hh2 => ?_⟩
          have h5 := h w2 g2 (hw1.trans hw2) hh2
          rw [if_pos (by rw [wj]; exact hwj), if_neg hej] at h5
          obtain ⟨oj'', Fj', _, hj3, hj4⟩ := h5
          obtain ⟨rfl, hF⟩ := pAt_unique hj2 fun w1 hw1 => (pAt_put (ops := ops) hsj h1).1 (hj3 w1 hw1)
          have hh' := hh.aft hw2
          rw [hF g _ hh', ← pc]
          exact hj4 w2 g (Aft.refl _) hh'
      · unfold stepF
        rw [if_neg hwj, if_pos (by rw [wi]; exact hwi), if_neg hei]
        refine ⟨ob, F, hz, fun w2 hw2 => (pAt_put (ops := ops) hsi h3).2 (hv w2 hw2), fun w2 g2 hw2 hh2 => ?_⟩
        have h5 := h w2 g2 hw2 hh2
        rw [if_neg (by rw [wj]; exact hwj)] at h5
        rw [← pc]
        exact h5
  · unfold stepF at h
    rw [if_neg hwi] at h
    unfold stepF
    by_cases hwj : Region.wanted oj (yielded ops a.tmps) = true
    · rw [if_pos (by rw [wj]; exact hwj)] at h
      rw [if_pos hwj]
      by_cases hej : 2 ≤ kj
      · rw [if_pos hej] at h ⊢
        intro w1 hw1
        refine wp_mono_put (fun b u w' hs => ?_) ((wp_put (ops := ops) hsj h1 h2).1 (h w1 hw1))
        obtain ⟨hc, hk⟩ := hs
        refine ⟨hc, ?_⟩
        rw [if_neg (by rw [wi]; exact hwi)]
        exact hk
      · rw [if_neg hej] at h ⊢
        obtain ⟨ob, F, hz, hu, hk⟩ := h
        refine ⟨ob, F, hz, fun w2 hw2 => (pAt_put (ops := ops) hsj h1).1 (hu w2 hw2), fun w2 g2 hw2 hh2 => ?_⟩
        rw [if_neg (by rw [wi]; exact hwi), ← pc]
        exact hk w2 g2 hw2 hh2
    · rw [if_neg (by rw [wj]; exact hwj)] at h
      rw [if_neg hwj, if_neg (by rw [wi]; exact hwi), ← pc]
      exact h
/-- The prefix, in the order of the list; T behind it. -/
def wpFs (P : Program) (ops : Array Oper) (w0 : World) (Kd : Nat → Nat) (T : Act → World → Prop) : List Nat → Act → World → Prop
  | [], a, w => T a w
  | i :: l, a, w => match ops[i]? with
    | some o => stepF P ops w0 (Kd i) o (wpFs P ops w0 Kd T l) a w
    | none => False
theorem wpFs_up {Kd : Nat → Nat} {T : Act → World → Prop} (hT : Up T) : ∀ l : List Nat, Up (wpFs P ops w0 Kd T l)
  | [] => hT
  | i :: l => by
    intro a w w1 hw h
    simp only [wpFs] at h ⊢
    cases hi : ops[i]? with
    | none => rw [hi] at h; exact h.elim
    | some o =>
      rw [hi] at h
      exact stepF_up (wpFs_up hT l) a w w1 hw h
theorem wpFs_front {Kd : Nat → Nat} {T : Act → World → Prop} (hT : Up T) (hs : ∀ (j : Nat) (o : Oper) cs b, ops[j]? = some o → o.op ≠ .select cs b) {j : Nat} {oj : Oper} (hj : ops[j]? = some oj) : ∀ (p q : List Nat) (a : Act) (w : World),
    (∀ i ∈ p, ∀ oi, ops[i]? = some oi → oi.apart ops oj = true ∧ ((2 ≤ Kd j → Kd i = 0) ∧ (Kd i = 3 → Kd j = 0))) → Aft w0 w → wpFs P ops w0 Kd T (p ++ j :: q) a w → stepF P ops w0 (Kd j) oj (wpFs P ops w0 Kd T (p ++ q)) a w
  | [], q, a, w, _, _, h => by simpa [wpFs, hj] using h
  | i :: p, q, a, w, hp, hC, h => by
    simp only [List.cons_append, wpFs] at h
    cases hi : ops[i]? with
    | none => rw [hi] at h; exact h.elim
    | some oi =>
      rw [hi] at h
      simp only at h
      obtain ⟨hap, hE⟩ := hp i (by simp) oi hi
      have ih := stepF_mono (fun a w hc hk => wpFs_front hT hs hj p q a w (fun x hx => hp x (by simp [hx])) hc hk) hC h
      have := stepF_swap (hs i oi · · hi) (hs j oj · · hj) hap hE hC (wpFs_up hT (p ++ q)) ih
      refine stepF_mono (fun a w _ hk => ?_) hC this
      simp only [List.cons_append, wpFs, hi]
      exact hk
theorem stepF_wpOp {i : Nat} {o : Oper} (hi : ops[i]? = some o) {kd : Nat} {K K' : Act → World → Prop} {Q : Exit → Act → World → Prop} (h : ∀ a w, Aft w0 w → K a w → K' a w) {a : Act} {w : World} (hC : Aft w0 w) (hs : stepF P ops w0 kd o K a w) : wpOp P ops Q i K' a w := by
  unfold stepF at hs
  unfold wpOp
  simp only [hi]
  split
  · rename_i hw
    rw [if_pos hw] at hs
    by_cases he : 2 ≤ kd
    · rw [if_pos he] at hs
      exact .inl (wp_noOut (Oper.wp_mono (fun a w ⟨c, k⟩ => h a w (c.base hC) k) (hs w (Aft.refl _))))
    · rw [if_neg he] at hs
      obtain ⟨ob, F, _, hv, hk⟩ := hs
      cases ob with
      | none => exact .inl (qAt_wp (hv w hC 0) (h _ _ hC (hk w 0 (Aft.refl _) trivial)))
      | some obj =>
        refine .inl ?_
        have hf := hv w hC
        unfold pAt fAt at hf
        unfold Oper.wp
        rw [hf]
        exact h _ _ (hC.trans (Aft.alloc _ _)) (hk _ _ (Aft.alloc _ _) ⟨Below.size hC, heap_alloc_new _ _⟩)
  · rename_i hw
    rw [if_neg hw] at hs
    exact h _ _ hC hs
def pairsF (ops : Array Oper) (Kd : Nat → Nat) (M : Array Nat) : Bool := (List.range ops.size).all fun k => (List.range k).all fun j => (M.getD k 0).testBit j || ((!Nat.ble 2 (Kd k) || Kd j == 0) && (Kd j != 3 || Kd k == 0))
def lexOKF (ops : Array Oper) (Kd : Nat → Nat) (N : Nat) (M : Array Nat) : Bool := lexOK ops (fun i => Nat.ble 2 (Kd i)) N M && pairsF ops Kd M
theorem pairF_of {Kd : Nat → Nat} {M : Array Nat} (h : pairsF ops Kd M = true) {j k : Nat} (hk : k < ops.size) (hjk : j < k) : (M.getD k 0).testBit j = true ∨ ((2 ≤ Kd k → Kd j = 0) ∧ (Kd j = 3 → Kd k = 0)) := by
  have h1 := List.all_eq_true.1 (List.all_eq_true.1 h k (List.mem_range.2 hk)) j (List.mem_range.2 hjk)
  simp only [Bool.or_eq_true, Bool.and_eq_true, Bool.not_eq_true', beq_iff_eq, bne_iff_ne, ne_eq] at h1
  rcases h1 with h1 | ⟨h1, h2⟩
  · exact .inl h1
  · refine .inr ⟨fun h3 => ?_, fun h3 => ?_⟩
    · rcases h1 with h1 | h1
      · have h4 : Nat.ble 2 (Kd k) = true := Nat.ble_eq ▸ h3
        rw [h1] at h4; cases h4
      · exact h1
    · rcases h2 with h2 | h2
      · exact absurd h3 h2
      · exact h2
/-- The prefix, in whatever order. -/
theorem lexF_prefix {Kd : Nat → Nat} {M : Array Nat} {N : Nat} {Q : Exit → Act → World → Prop} (hs : Region.noSelect ops = true) (hM : maskOk ops M = true) (hp : pairsOk ops (fun i => Nat.ble 2 (Kd i)) N M = true) (hF : pairsF ops Kd M = true) (hN : N ≤ ops.size) : ∀ (fuel : Nat) (listed : Array Bool) (a : Act) (w : World), listed.size = ops.size → Closed ops listed →
    (∀ i, N ≤ i → i < ops.size → listed.getD i false = false) → Aft w0 w → (waiting listed N).length + (ops.size - N) ≤ fuel →
    wpFs P ops w0 Kd (fun a w => ∀ w1, Aft w w1 → wpOps P ops Q (List.range' N (ops.size - N)) a w1) (waiting listed N) a w → wpAny P .any ops Q fuel listed a w := by
  have hT : Up (fun a w => ∀ w1, Aft w w1 → wpOps P ops Q (List.range' N (ops.size - N)) a w1) := fun a w w1 hw h w2 h2 => h w2 (hw.trans h2)
  intro fuel
  induction fuel with
  | zero =>
    intro listed a w hz hc hhi hC hf h
    have h0 : waiting listed N = [] := List.eq_nil_of_length_eq_zero (by omega)
    rw [h0] at h
    refine lex_tail (N := N) hM hp 0 N listed a w hz hc (fun i hi hi' => ?_) hhi (Nat.le_refl _) (by omega) (h w (Aft.refl _))
    cases hl : listed.getD i false with
    | true => rfl
    | false => have := (mem_waiting (listed := listed) (N := N) (by omega)).2 ⟨hi, hl⟩; rw [h0] at this; cases this
  | succ fuel ih =>
    intro listed a w hz hc hhi hC hf h
    cases hw : waiting listed N with
    | nil =>
      rw [hw] at h
      refine lex_tail (N := N) hM hp (fuel + 1) N listed a w hz hc (fun i hi hi' => ?_) hhi (Nat.le_refl _) (by rw [hw] at hf; simpa using hf) (h w (Aft.refl _))
      cases hl : listed.getD i false with
      | true => rfl
      | false => have := (mem_waiting (listed := listed) (N := N) (by omega)).2 ⟨hi, hl⟩; rw [hw] at this; cases this
    | cons k0 rest =>
      have hk0 := (mem_waiting (listed := listed) (N := N) (i := k0) (by omega)).1 (by rw [hw]; simp)
      have hsort := waiting_sorted listed N
      have hlow : ∀ i, i < k0 → listed.getD i false = true := by
        intro i hi
        cases hl : listed.getD i false with
        | true => rfl
        | false =>
          have hm := (mem_waiting (listed := listed) (N := N) (i := i) (by omega)).2 ⟨by omega, hl⟩
          rw [hw] at hm hsort
          rw [List.pairwise_cons] at hsort
          rcases List.mem_cons.1 hm with rfl | hm
          · omega
          · have := hsort.1 i hm; omega
      have hk0s : k0 < ops.size := by omega
      have ho0 : ops[k0]? = some ops[k0] := Array.getElem?_eq_getElem hk0s
      have hr : k0 ∈ Region.ready .any ops listed := mem_wait hz ho0 hk0.2 fun e he hb => hlow _ (edges_back hM ho0 e he hb)
      refine ⟨fun h0 => (by rw [h0] at hr; cases hr), fun i hi => ?_⟩
      obtain ⟨oi, hio, h0, he⟩ := ready_spec hz hi
      have hi' : i < ops.size := (Array.getElem?_eq_some_iff.1 hio).1
      have hbits : ∀ j, j < ops.size → (M.getD i 0).testBit j = true → listed.getD j false = true := mask_listed hM hc i oi hio he
      have hiN : i < N := by
        rcases Nat.lt_or_ge i N with h' | h'
        · exact h'
        · exfalso
          rcases pair_of hp hi' (show k0 < i by omega) with hb | ⟨hb, _⟩
          · have := hbits k0 (by omega) hb
            rw [hk0.2] at this
            cases this
          · omega
      have hmem := (mem_waiting (listed := listed) (N := N) (i := i) (by omega)).2 ⟨hiN, h0⟩
      obtain ⟨p, q, hpq⟩ := List.append_of_mem hmem
      have hfront := wpFs_front (Kd := Kd) hT (Region.noSelect_spec hs) hio p q a w (fun j hj oj hjo => by
        have hji : j < i := by
          have hs' := hsort
          rw [hpq, List.pairwise_append] at hs'
          exact hs'.2.2 j hj i (by simp)
        have hj0 := ((mem_waiting (listed := listed) (N := N) (i := j) (by omega)).1 (by rw [hpq]; simp [hj])).2
        rcases pair_of hp hi' hji with hb | ⟨_, hb⟩
        · have := hbits j (by omega) hb
          rw [hj0] at this
          cases this
        · refine ⟨(hb oj oi hjo hio).1, ?_⟩
          rcases pairF_of hF hi' hji with hb | hb
          · have := hbits j (by omega) hb
            rw [hj0] at this
            cases this
          · exact hb) hC (by rw [← hpq]; exact h)
      have hset := waiting_set (listed := listed) (N := N) (by omega) hpq
      refine stepF_wpOp hio (fun a w hc' hk => ih _ a w (by simp [hz]) (closed_set hc hio he) (fun j hj hjs => ?_) hc' ?_ ?_) hC hfront
      · rw [getD_set_ne false (by omega)]; exact hhi j hj hjs
      · rw [hset]; rw [hpq] at hf; simp at hf ⊢; omega
      · rw [hset]; exact hk
/-- The walk itself. -/
def wpFx (P : Program) (ops : Array Oper) (w0 : World) (Kd : Nat → Nat) (Q : Exit → Act → World → Prop) : Nat → Nat → List Oper → Act → World → Prop
  | 0, _, l, a, w => ∀ w1, Aft w w1 → wpList P ops Q l a w1
  | n + 1, k, o :: l, a, w => stepF P ops w0 (Kd k) o (wpFx P ops w0 Kd Q n (k + 1) l) a w
  | _ + 1, _, [], _, _ => False
theorem wpFx_up {Kd : Nat → Nat} {Q : Exit → Act → World → Prop} : ∀ (n k : Nat) (l : List Oper), Up (wpFx P ops w0 Kd Q n k l)
  | 0, _, l => fun a w w1 hw h w2 h2 => h w2 (hw.trans h2)
  | n + 1, k, o :: l => fun a w w1 hw h => by simp only [wpFx] at h ⊢; exact stepF_up (wpFx_up n (k + 1) l) a w w1 hw h
  | _ + 1, _, [] => fun _ _ _ _ h => by simp only [wpFx] at h
theorem wpFs_of_wpFx {Kd : Nat → Nat} {Q : Exit → Act → World → Prop} : ∀ (n k : Nat) (l : List Oper) (a : Act) (w : World), Aft w0 w → (∀ j, l[j]? = ops[k + j]?) → n ≤ l.length → k + l.length = ops.size → wpFx P ops w0 Kd Q n k l a w →
    wpFs P ops w0 Kd (fun a w => ∀ w1, Aft w w1 → wpOps P ops Q (List.range' (k + n) (ops.size - (k + n))) a w1) (List.range' k n) a w
  | 0, k, l, a, w, hC, hl, _, hz, h => by
    simp only [List.range'_zero, wpFs, Nat.add_zero]
    simp only [wpFx] at h
    intro w1 hw1
    rw [show ops.size - k = l.length by omega, wpOps_eq_wpList l k hl]
    exact h w1 hw1
  | n + 1, k, [], a, w, _, _, hn, _, _ => by simp at hn
  | n + 1, k, o :: l, a, w, hC, hl, hn, hz, h => by
    have h0 : ops[k]? = some o := by simpa using (hl 0).symm
    simp only [wpFx] at h
    rw [List.range'_succ]
    simp only [wpFs, h0]
    have ih := fun a w hC => wpFs_of_wpFx (Kd := Kd) (Q := Q) n (k + 1) l a w hC (fun j => by have := hl (j + 1); simpa [Nat.add_assoc, Nat.add_comm 1 j] using this) (by simpa using hn) (by simp at hz; omega)
    rw [show k + (n + 1) = k + 1 + n by omega]
    exact stepF_mono ih hC h
/-- **A REGION THAT DRAWS ITS ORDER IS WALKED ONCE.** Kd: 0 reads, 1 makes a block, 2 turns the world. -/
theorem wp_region_lexF {id : Nat} {Q : Exit → Act → World → Prop} {a : Act} {w : World} {l : List Oper} (Kd : Nat → Nat) (n : Nat) (hm : P.follows .mixedOrders = true)
    (hB : lexOKF l.toArray Kd n (Region.before l.toArray) = true) (h : ∀ w0, w0 = w.drew → wpFx P l.toArray w0 Kd Q n 0 l a w0) : (Code.region id l.toArray true).wp P Q a w := by
  have h := h w.drew rfl
  simp only [lexOKF, lexOK, Bool.and_eq_true, decide_eq_true_eq] at hB
  obtain ⟨⟨⟨⟨hs, hM⟩, hp⟩, hN⟩, hF⟩ := hB
  have hN' : n ≤ l.length := by simpa using hN
  refine wp_region_any hm ?_
  have hw : waiting (Array.replicate l.toArray.size false) n = List.range n := by
    unfold waiting
    rw [List.filter_eq_self]
    intro i hi
    rw [List.mem_range] at hi
    have : i < l.length := by omega
    simp [this]
  have h1 := wpFs_of_wpFx (Kd := Kd) (ops := l.toArray) n 0 l a _ (Aft.refl _) (by simp) hN' (by simp) h
  rw [Nat.zero_add, ← List.range_eq_range'] at h1
  refine lexF_prefix (Kd := Kd) (w0 := w.drew) hs hM hp hF hN _ _ a _ (by simp) ?_ ?_ (Aft.refl _) ?_ ?_
  · intro k o _ hl
    exfalso
    have hk : ¬ (Array.replicate l.toArray.size false).getD k false = true := by
      by_cases hk : k < l.length <;> simp [hk]
    exact hk hl
  · intro i _ hi
    have hi' : i < l.length := by simpa using hi
    simp [hi']
  · rw [hw]; simp; omega
  · rw [hw]; exact h1
theorem wpFx_succ {Kd : Nat → Nat} {Q : Exit → Act → World → Prop} {n k : Nat} {o : Oper} {l : List Oper} {a : Act} {w : World} : wpFx P ops w0 Kd Q (n + 1) k (o :: l) a w = stepF P ops w0 (Kd k) o (wpFx P ops w0 Kd Q n (k + 1) l) a w := rfl
section
variable {Kd : Nat → Nat} {Q : Exit → Act → World → Prop} {n k : Nat} {o : Oper} {l : List Oper} {a : Act} {w : World}
theorem lf_skip (_ : wpQuiet P ops (fun _ => False) (fun _ => True) [o] a) (hw : Region.wanted o (yielded ops a.tmps) = false) (h : wpFx P ops w0 Kd Q n (k + 1) l (a.put o.dst undef) w) : wpFx P ops w0 Kd Q (n + 1) k (o :: l) a w := by
  simp only [wpFx, stepF, hw]
  exact h
theorem lf_quiet (hk : Kd k = 0) (_ : wpQuiet P ops (fun _ => False) (fun _ => True) [o] a) (hw : Region.wanted o (yielded ops a.tmps) = true) (hv : isV o.op = true)
    (h : ∀ K : Act → Prop, (∀ a', wpFx P ops w0 Kd Q n (k + 1) l a' w → K a') → o.quiet P a (fun w' => ∃ u : Later w0.heap.size w0, w' = u.w) K) : wpFx P ops w0 Kd Q (n + 1) k (o :: l) a w := by
  obtain ⟨v, hq, hk2⟩ := h (fun a' => wpFx P ops w0 Kd Q n (k + 1) l a' w) fun _ h => h
  simp only [wpFx, stepF, hw, if_true, hk]
  rw [if_neg (by omega)]
  exact ⟨none, fun _ => v, fun _ => rfl, fun w' hw' _ => qAt_of_quietAt hv (hq w' ⟨⟨w', hw'⟩, rfl⟩), fun w1 g hw1 _ => wpFx_up _ _ _ _ _ _ hw1 hk2⟩
theorem lf_fresh (obj : Obj) (F : Nat → Value) (hk : Kd k = 1) (hw : Region.wanted o (yielded ops a.tmps) = true) (hv : ∀ w1, (execOp a.eval o).run P w1 = .ok (.value (F w1.heap.size)) (w1.alloc obj))
    (h : ∀ w1 g, Aft w w1 → w0.heap.size ≤ g → w1.heap[g]? = some obj → wpFx P ops w0 Kd Q n (k + 1) l (a.put o.dst (F g)) w1) : wpFx P ops w0 Kd Q (n + 1) k (o :: l) a w := by
  simp only [wpFx, stepF, hw, if_true, hk]
  rw [if_neg (by omega)]
  exact ⟨some obj, F, (fun h => by cases h), fun w1 _ => hv w1, fun w1 g hw1 hh => h w1 g hw1 hh.1 hh.2⟩
theorem lf_eff (hk : Kd k = 2) (_ : wpQuiet P ops (fun _ => False) (fun _ => True) [o] a) (hw : Region.wanted o (yielded ops a.tmps) = true)
    (h : ∀ w1, Aft w w1 → ∀ K : Act → World → Prop, (∀ a' w', (Aft w1 w' ∧ wpFx P ops w0 Kd Q n (k + 1) l a' w') → K a' w') → o.wp P a w1 K noOut) : wpFx P ops w0 Kd Q (n + 1) k (o :: l) a w := by
  simp only [wpFx, stepF, hw, if_true, hk, Nat.le_refl]
  exact fun w1 hw1 => h w1 hw1 _ fun _ _ h => ⟨by unfold Leaves; rw [if_neg (by decide)]; exact h.1, h.2⟩
theorem lf_store (hk : Kd k = 3) (hw : Region.wanted o (yielded ops a.tmps) = true) (ty : TypeId) (x y : Operand) (ho : o.op = .store ty x y)
    (g : Nat) (cells : Array Value) (hx : a.eval x = .pointer (some ⟨g, 0, none⟩)) (hy : a.eval y = .agg cells)
    (t : TypeId) (old : Array Value) (hC : Aft w0 w) (h0 : w0.heap.size ≤ g) (hg : w.heap[g]? = some (.cells old t (0, 0))) (hi : (P.info? ty).map (·.size) = some cells.size)
    (hold : old.size = cells.size) (h1 : cells.all (·.oneCell') = true)
    (h : ∀ w2, Hid (w2.heap[g]? = some (.cells cells t (0, 0))) → Aft w0 w2 → Hid (∀ k, k < w.heap.size → k ≠ g → w2.heap[k]? = w.heap[k]?) → wpFx P ops w0 Kd Q n (k + 1) l (a.put o.dst undef) w2) : wpFx P ops w0 Kd Q (n + 1) k (o :: l) a w := by
  simp only [wpFx, stepF, hw, if_true, hk]
  rw [if_pos (by omega)]
  intro w1 hw1
  refine wp_store_row ty x y ho g cells hx hy t old (hw1.get hg) hi hold h1 ?_
  have hb : Aft w0 (w1.setRow g cells) := below_setRow (hC.trans hw1) h0 _
  refine ⟨by unfold Leaves; rw [if_pos rfl]; exact hb, h _ (show _ = _ from setRow_heap _ _ _ _ _ _ (hw1.get hg)) hb (show _ from fun k hk hne => ?_)⟩
  rw [setRow_other w1 g k _ hne]
  exact Below.block hw1 k hk
theorem lf_eff3 (hk : Kd k = 3) (_ : wpQuiet P ops (fun _ => False) (fun _ => True) [o] a) (hw : Region.wanted o (yielded ops a.tmps) = true)
    (h : ∀ w1, Aft w w1 → ∀ K : Act → World → Prop, (∀ a' w', (Aft w0 w' ∧ wpFx P ops w0 Kd Q n (k + 1) l a' w') → K a' w') → o.wp P a w1 K noOut) : wpFx P ops w0 Kd Q (n + 1) k (o :: l) a w := by
  simp only [wpFx, stepF, hw, if_true, hk]
  rw [if_pos (by omega)]
  exact fun w1 hw1 => h w1 hw1 _ fun _ _ h => ⟨by unfold Leaves; rw [if_pos rfl]; exact h.1, h.2⟩
theorem lf_done (h : ∀ w1, Aft w w1 → wpList P ops Q l a w1) : wpFx P ops w0 Kd Q 0 k l a w := h
end
end
/-- A law on a plain list of operations serves a single, guarded one. -/
theorem wp_of_list {P : Program} {ops : Array Oper} {o : Oper} {a : Act} {w : World} {K : Act → World → Prop} (h : wpList P ops (fun ex a w => ex = .normal ∧ K a w) [{ o with guard := none }] a w) : o.wp P a w K noOut := by
  unfold wpList at h
  rw [if_pos (show Region.wanted { o with guard := none } (yielded ops a.tmps) = true from rfl)] at h
  rcases h with h | ⟨_, h⟩
  · have e : ({ o with guard := none } : Oper).wp P a w = o.wp P a w := rfl
    rw [e] at h
    unfold Oper.wp at *
    generalize (execOp a.eval o).run P w = r at *
    cases r with
    | ok n w' =>
      cases n <;> simp only [Oper.upon, wpList] at h ⊢
      case value v => exact h.2
      case skip => exact h.2
      case defer d => exact h.2
      case enter f args => exact Calls.mono h fun e w'' he => by cases e <;> first | exact he.2 | exact (by cases he.1) | exact (by obtain ⟨_, _, hf⟩ := he; cases hf.1)
      case row r args => exact Rows.mono h fun v w'' he => he.2
    | halt x w' => cases x <;> simp only [Oper.upon] at h ⊢ <;> first | exact h.elim | exact (by cases h.1)
  · obtain ⟨_, _, hf⟩ := h
    cases hf.1
attribute [irreducible] wpFx
end Go.Proofs.Ytpnckphfjcnooaa

