/- The ledger where a row of one's own is turned (out of R11c). -/
import Derived.Test.YtfgammcefaomeaaB4
namespace Go.Proofs.Ytfgammcefaomeaa
open Go Go.RowKit
theorem Led.frR {w0 w w' : World} {L : List (Nat × Obj)} {base e s n : Nat} {v : Value} {xs : List Value} (h : Led w0 w L) (ho : w.ownsRow base e s v n xs) (hb : w0.heap.size ≤ base) (hf : Fr (fun b => v.ownBlock = some b) w w') (ht : noT e L = true) : Led w0 w' L := by
  have hlt : ∀ g, v.ownBlock = some g → base ≤ g := fun g q => by
    rcases ho.2 with ⟨rfl, -⟩ | ⟨g', cap, cur, rfl, hb', -, -⟩
    · cases q
    · cases q
      exact hb'
  refine ⟨⟨hf.os.trans h.aft.os, hf.tape.trans h.aft.tape, hf.output.trans h.aft.output, Nat.le_trans h.aft.size hf.size, fun k hk => (hf.block k (Nat.lt_of_lt_of_le hk h.aft.size) fun q => ?_).trans (h.aft.block k hk)⟩, fun i k o hi => ⟨?_, (h.has i k o hi).2⟩, h.inc⟩
  · have := hlt _ q
    omega
  · have hk := h.get i hi
    refine (hf.block k (heap_lt hk) fun q => ?_).trans hk
    rcases ho.2 with ⟨rfl, -⟩ | ⟨g, cap, cur, rfl, -, hg, -⟩
    · cases q
    · cases q
      rw [show Addr.block ⟨g, 0, none⟩ = g from rfl] at hk
      rw [hg] at hk
      exact noT_at ht _ (List.mem_of_getElem? hi) _ _ _ (Option.some.inj hk).symm rfl
end Go.Proofs.Ytfgammcefaomeaa
