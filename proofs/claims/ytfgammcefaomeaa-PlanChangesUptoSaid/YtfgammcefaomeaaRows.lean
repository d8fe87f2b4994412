/-
  No cell of these rows narrows 'for every input' (looked for: loops, veiled, ifaces, maps, wideKeys, modest, calm, conditions, laid).
  DERIVED. THE GIVEN ROWS OF THIS SEAT. 8 by the template 'for every input the law returns true; each argument reads behind the call as it read before'; 0 by the template 'total and deterministic' (their statements: YtfgammcefaomeaaTotals.lean).
  GIVEN WITH THE SEED: the statements are not yours to turn. If you find one false, say at which input.
  Laid BY PROGRAM, IN A SANDBOX (cutbox-rows.mjs): the forced cells as the released guide's own fill.sh prints them over the translation d911e1699cd843d4… (all of the seat's roots in one cut). By AI agents, Wed Nov 11 2026. No macro, syntax, notation, axiom, sorry.
-/
import Derived.Test.YtfgammcefaomeaaChecked
import GoSem.Claim
import GoSem.ClaimJoined
import GoSem.ClaimMapViews
import Derived.JoinedTies
import Derived.KernelRfl
namespace Go.Proofs.Ytfgammcefaomeaa
/- THE CELL 'sum', in the pinned program and in every row, IS THE sha256 OF THE DUMP (.gsa) THAT YtfgammcefaomeaaProg.lean LOADS. Nothing in Lean hashes anything: it is a label: what it is worth is what the hold of that sum in a sandbox is worth. -/
noncomputable def Try.pinned : Pinned := { name := "ytfgammcefaomeaa", sum := "d911e1699cd843d4ccd672d0f0520b6f380084a408e634a9d3964fa3c8afea43", checked := Try.checked }
namespace Rows
def none {H : Type} : Left H := { results := [], args := [] }

/-- 'coterielaw12.PlanAll': WHATEVER THE INPUT: true; the input reads as it did. -/
def planAllSpec : ChangeSpec := { name := "planAll", fn := fun _ => fun
  | [d1, d2, d3, d4] => { results := [.lit (.bool true)], args := [d1, d2, d3, d4] }
  | _ => none }
def planAllRow : OpenClaim := { program := "ytfgammcefaomeaa", sum := "d911e1699cd843d4ccd672d0f0520b6f380084a408e634a9d3964fa3c8afea43", func := "coterie/coterielaw12.PlanAll", spec := "planAll", inPlace := ["slices.overlaps[int]"], unfollowed := true, recurses := true, apart := false }
def PlanAllSaid : Prop := planAllRow.holds Try.pinned (OpenSpec.ofChange planAllSpec)

/-- ITS FALSE NEIGHBOUR: 'it returns false'. Refute it at one input. -/
def planAllWrong : ChangeSpec := { name := "planAll", fn := fun _ => fun
  | [d1, d2, d3, d4] => { results := [.lit (.bool false)], args := [d1, d2, d3, d4] }
  | _ => none }
def PlanAllWrongFalsely : Prop := planAllRow.holds Try.pinned (OpenSpec.ofChange planAllWrong)

/-- 'coterielaw12.PlanWay': WHATEVER THE INPUT: true; the input reads as it did. -/
def planWaySpec : ChangeSpec := { name := "planWay", fn := fun _ => fun
  | [d1, d2, d3] => { results := [.lit (.bool true)], args := [d1, d2, d3] }
  | _ => none }
def planWayRow : OpenClaim := { program := "ytfgammcefaomeaa", sum := "d911e1699cd843d4ccd672d0f0520b6f380084a408e634a9d3964fa3c8afea43", func := "coterie/coterielaw12.PlanWay", spec := "planWay", inPlace := ["slices.overlaps[int]"], unfollowed := true, recurses := true, apart := false }
def PlanWaySaid : Prop := planWayRow.holds Try.pinned (OpenSpec.ofChange planWaySpec)

/-- ITS FALSE NEIGHBOUR: 'it returns false'. Refute it at one input. -/
def planWayWrong : ChangeSpec := { name := "planWay", fn := fun _ => fun
  | [d1, d2, d3] => { results := [.lit (.bool false)], args := [d1, d2, d3] }
  | _ => none }
def PlanWayWrongFalsely : Prop := planWayRow.holds Try.pinned (OpenSpec.ofChange planWayWrong)

/-- 'coterielaw12.PlanChanges': WHATEVER THE INPUT: true; the input reads as it did. -/
def planChangesSpec : ChangeSpec := { name := "planChanges", fn := fun _ => fun
  | [d1, d2, d3, d4, d5] => { results := [.lit (.bool true)], args := [d1, d2, d3, d4, d5] }
  | _ => none }
def planChangesRow : OpenClaim := { program := "ytfgammcefaomeaa", sum := "d911e1699cd843d4ccd672d0f0520b6f380084a408e634a9d3964fa3c8afea43", func := "coterie/coterielaw12.PlanChanges", spec := "planChanges", inPlace := ["slices.overlaps[int]"], unfollowed := true, recurses := true, apart := false }
def PlanChangesSaid : Prop := planChangesRow.holds Try.pinned (OpenSpec.ofChange planChangesSpec)

/-- ITS FALSE NEIGHBOUR: 'it returns false'. Refute it at one input. -/
def planChangesWrong : ChangeSpec := { name := "planChanges", fn := fun _ => fun
  | [d1, d2, d3, d4, d5] => { results := [.lit (.bool false)], args := [d1, d2, d3, d4, d5] }
  | _ => none }
def PlanChangesWrongFalsely : Prop := planChangesRow.holds Try.pinned (OpenSpec.ofChange planChangesWrong)

/-- 'coterielaw12.PlanKeeps': WHATEVER THE INPUT: true; the input reads as it did. -/
def planKeepsSpec : ChangeSpec := { name := "planKeeps", fn := fun _ => fun
  | [d1, d2, d3, d4, d5, d6] => { results := [.lit (.bool true)], args := [d1, d2, d3, d4, d5, d6] }
  | _ => none }
def planKeepsRow : OpenClaim := { program := "ytfgammcefaomeaa", sum := "d911e1699cd843d4ccd672d0f0520b6f380084a408e634a9d3964fa3c8afea43", func := "coterie/coterielaw12.PlanKeeps", spec := "planKeeps", inPlace := ["slices.overlaps[int]"], unfollowed := true, recurses := true, apart := false }
def PlanKeepsSaid : Prop := planKeepsRow.holds Try.pinned (OpenSpec.ofChange planKeepsSpec)

/-- ITS FALSE NEIGHBOUR: 'it returns false'. Refute it at one input. -/
def planKeepsWrong : ChangeSpec := { name := "planKeeps", fn := fun _ => fun
  | [d1, d2, d3, d4, d5, d6] => { results := [.lit (.bool false)], args := [d1, d2, d3, d4, d5, d6] }
  | _ => none }
def PlanKeepsWrongFalsely : Prop := planKeepsRow.holds Try.pinned (OpenSpec.ofChange planKeepsWrong)

/-- 'coterielaw24.TermsCloses': WHATEVER THE INPUT: true; the input reads as it did. -/
def termsClosesSpec : ChangeSpec := { name := "termsCloses", fn := fun _ => fun
  | [d1, d2] => { results := [.lit (.bool true)], args := [d1, d2] }
  | _ => none }
def termsClosesRow : OpenClaim := { program := "ytfgammcefaomeaa", sum := "d911e1699cd843d4ccd672d0f0520b6f380084a408e634a9d3964fa3c8afea43", func := "coterie/coterielaw24.TermsCloses", spec := "termsCloses", unfollowed := true, recurses := true, apart := false }
def TermsClosesSaid : Prop := termsClosesRow.holds Try.pinned (OpenSpec.ofChange termsClosesSpec)

/-- ITS FALSE NEIGHBOUR: 'it returns false'. Refute it at one input. -/
def termsClosesWrong : ChangeSpec := { name := "termsCloses", fn := fun _ => fun
  | [d1, d2] => { results := [.lit (.bool false)], args := [d1, d2] }
  | _ => none }
def TermsClosesWrongFalsely : Prop := termsClosesRow.holds Try.pinned (OpenSpec.ofChange termsClosesWrong)

/-- 'coterielaw24.TermsMore': WHATEVER THE INPUT: true; the input reads as it did. -/
def termsMoreSpec : ChangeSpec := { name := "termsMore", fn := fun _ => fun
  | [d1, d2, d3] => { results := [.lit (.bool true)], args := [d1, d2, d3] }
  | _ => none }
def termsMoreRow : OpenClaim := { program := "ytfgammcefaomeaa", sum := "d911e1699cd843d4ccd672d0f0520b6f380084a408e634a9d3964fa3c8afea43", func := "coterie/coterielaw24.TermsMore", spec := "termsMore", unfollowed := true, recurses := true, apart := false }
def TermsMoreSaid : Prop := termsMoreRow.holds Try.pinned (OpenSpec.ofChange termsMoreSpec)

/-- ITS FALSE NEIGHBOUR: 'it returns false'. Refute it at one input. -/
def termsMoreWrong : ChangeSpec := { name := "termsMore", fn := fun _ => fun
  | [d1, d2, d3] => { results := [.lit (.bool false)], args := [d1, d2, d3] }
  | _ => none }
def TermsMoreWrongFalsely : Prop := termsMoreRow.holds Try.pinned (OpenSpec.ofChange termsMoreWrong)

/-- 'coterielaw12.PlanBound': WHATEVER THE INPUT: true; the input reads as it did. -/
def planBoundSpec : ChangeSpec := { name := "planBound", fn := fun _ => fun
  | [d1, d2, d3, d4, d5, d6] => { results := [.lit (.bool true)], args := [d1, d2, d3, d4, d5, d6] }
  | _ => none }
def planBoundRow : OpenClaim := { program := "ytfgammcefaomeaa", sum := "d911e1699cd843d4ccd672d0f0520b6f380084a408e634a9d3964fa3c8afea43", func := "coterie/coterielaw12.PlanBound", spec := "planBound", inPlace := ["slices.overlaps[int]"], unfollowed := true, recurses := true, apart := false }
def PlanBoundSaid : Prop := planBoundRow.holds Try.pinned (OpenSpec.ofChange planBoundSpec)

/-- ITS FALSE NEIGHBOUR: 'it returns false'. Refute it at one input. -/
def planBoundWrong : ChangeSpec := { name := "planBound", fn := fun _ => fun
  | [d1, d2, d3, d4, d5, d6] => { results := [.lit (.bool false)], args := [d1, d2, d3, d4, d5, d6] }
  | _ => none }
def PlanBoundWrongFalsely : Prop := planBoundRow.holds Try.pinned (OpenSpec.ofChange planBoundWrong)

/-- 'coterielaw12.PlanReaches': WHATEVER THE INPUT: true; the input reads as it did. -/
def planReachesSpec : ChangeSpec := { name := "planReaches", fn := fun _ => fun
  | [d1, d2, d3, d4, d5, d6] => { results := [.lit (.bool true)], args := [d1, d2, d3, d4, d5, d6] }
  | _ => none }
def planReachesRow : OpenClaim := { program := "ytfgammcefaomeaa", sum := "d911e1699cd843d4ccd672d0f0520b6f380084a408e634a9d3964fa3c8afea43", func := "coterie/coterielaw12.PlanReaches", spec := "planReaches", inPlace := ["slices.overlaps[int]"], unfollowed := true, recurses := true, apart := false }
def PlanReachesSaid : Prop := planReachesRow.holds Try.pinned (OpenSpec.ofChange planReachesSpec)

/-- ITS FALSE NEIGHBOUR: 'it returns false'. Refute it at one input. -/
def planReachesWrong : ChangeSpec := { name := "planReaches", fn := fun _ => fun
  | [d1, d2, d3, d4, d5, d6] => { results := [.lit (.bool false)], args := [d1, d2, d3, d4, d5, d6] }
  | _ => none }
def PlanReachesWrongFalsely : Prop := planReachesRow.holds Try.pinned (OpenSpec.ofChange planReachesWrong)

/- THE SECOND FORM. 'bulk': how many values and letters a reading holds, each counted each time it is reached (what is shared counts as often as it is met; a slice's spare places count too). A statement '..UptoSaid' is the law's where the arguments, and the package variables that the reading takes, are together of bulk at most 1048576: NARROWER than '..Said'. Prove '..Said' where nothing that the law and all that it calls make is longer than what came in: it says more and counts as full. Else prove '..UptoSaid'. A law counts once. -/
mutual
def uptoBulk {H : Type} : DataW H → Nat
  | .lit (.string bytes) => bytes.length + 1
  | .lit _ => 1
  | .nil => 1
  | .ptr d => uptoBulk d + 1
  | .slice elems spare => uptoBulkAll elems + uptoBulkAll spare + 1
  | .agg parts => uptoBulkAll parts + 1
  | .iface _ d => uptoBulk d + 1
  | .map entries => uptoBulkEntries entries + 1
  | .held _ => 1
def uptoBulkAll {H : Type} : List (DataW H) → Nat
  | [] => 0
  | d :: r => uptoBulk d + uptoBulkAll r
def uptoBulkEntries {H : Type} : List (Lit × DataW H) → Nat
  | [] => 0
  | x :: r => uptoBulkEntry x + uptoBulkEntries r
def uptoBulkEntry {H : Type} : Lit × DataW H → Nat
  | (.string bytes, d) => bytes.length + uptoBulk d + 1
  | (_, d) => uptoBulk d + 1
 end
def uptoSmall : (H : Type) → List (DataW H) → Bool := fun _ ds => decide (uptoBulkAll ds ≤ 1048576)
def OpenSpec.upto (s : _root_.Go.ChangeSpec) : _root_.Go.OpenSpec := { _root_.Go.OpenSpec.ofChange s with cond := some uptoSmall }

/-- 'coterielaw12.PlanAll', WHERE WHAT IT READS IS OF BULK AT MOST 1048576: true; the input reads as it did. -/
def planAllUptoRow : OpenClaim := { program := "ytfgammcefaomeaa", sum := "d911e1699cd843d4ccd672d0f0520b6f380084a408e634a9d3964fa3c8afea43", func := "coterie/coterielaw12.PlanAll", spec := "planAll", inPlace := ["slices.overlaps[int]"], unfollowed := true, recurses := true, apart := false, narrowed := true }
def PlanAllUptoSaid : Prop := planAllUptoRow.holds Try.pinned (OpenSpec.upto planAllSpec)

/-- 'coterielaw12.PlanWay', WHERE WHAT IT READS IS OF BULK AT MOST 1048576: true; the input reads as it did. -/
def planWayUptoRow : OpenClaim := { program := "ytfgammcefaomeaa", sum := "d911e1699cd843d4ccd672d0f0520b6f380084a408e634a9d3964fa3c8afea43", func := "coterie/coterielaw12.PlanWay", spec := "planWay", inPlace := ["slices.overlaps[int]"], unfollowed := true, recurses := true, apart := false, narrowed := true }
def PlanWayUptoSaid : Prop := planWayUptoRow.holds Try.pinned (OpenSpec.upto planWaySpec)

/-- 'coterielaw12.PlanChanges', WHERE WHAT IT READS IS OF BULK AT MOST 1048576: true; the input reads as it did. -/
def planChangesUptoRow : OpenClaim := { program := "ytfgammcefaomeaa", sum := "d911e1699cd843d4ccd672d0f0520b6f380084a408e634a9d3964fa3c8afea43", func := "coterie/coterielaw12.PlanChanges", spec := "planChanges", inPlace := ["slices.overlaps[int]"], unfollowed := true, recurses := true, apart := false, narrowed := true }
def PlanChangesUptoSaid : Prop := planChangesUptoRow.holds Try.pinned (OpenSpec.upto planChangesSpec)

/-- 'coterielaw12.PlanKeeps', WHERE WHAT IT READS IS OF BULK AT MOST 1048576: true; the input reads as it did. -/
def planKeepsUptoRow : OpenClaim := { program := "ytfgammcefaomeaa", sum := "d911e1699cd843d4ccd672d0f0520b6f380084a408e634a9d3964fa3c8afea43", func := "coterie/coterielaw12.PlanKeeps", spec := "planKeeps", inPlace := ["slices.overlaps[int]"], unfollowed := true, recurses := true, apart := false, narrowed := true }
def PlanKeepsUptoSaid : Prop := planKeepsUptoRow.holds Try.pinned (OpenSpec.upto planKeepsSpec)

/-- 'coterielaw24.TermsCloses', WHERE WHAT IT READS IS OF BULK AT MOST 1048576: true; the input reads as it did. -/
def termsClosesUptoRow : OpenClaim := { program := "ytfgammcefaomeaa", sum := "d911e1699cd843d4ccd672d0f0520b6f380084a408e634a9d3964fa3c8afea43", func := "coterie/coterielaw24.TermsCloses", spec := "termsCloses", unfollowed := true, recurses := true, apart := false, narrowed := true }
def TermsClosesUptoSaid : Prop := termsClosesUptoRow.holds Try.pinned (OpenSpec.upto termsClosesSpec)

/-- 'coterielaw24.TermsMore', WHERE WHAT IT READS IS OF BULK AT MOST 1048576: true; the input reads as it did. -/
def termsMoreUptoRow : OpenClaim := { program := "ytfgammcefaomeaa", sum := "d911e1699cd843d4ccd672d0f0520b6f380084a408e634a9d3964fa3c8afea43", func := "coterie/coterielaw24.TermsMore", spec := "termsMore", unfollowed := true, recurses := true, apart := false, narrowed := true }
def TermsMoreUptoSaid : Prop := termsMoreUptoRow.holds Try.pinned (OpenSpec.upto termsMoreSpec)

/-- 'coterielaw12.PlanBound', WHERE WHAT IT READS IS OF BULK AT MOST 1048576: true; the input reads as it did. -/
def planBoundUptoRow : OpenClaim := { program := "ytfgammcefaomeaa", sum := "d911e1699cd843d4ccd672d0f0520b6f380084a408e634a9d3964fa3c8afea43", func := "coterie/coterielaw12.PlanBound", spec := "planBound", inPlace := ["slices.overlaps[int]"], unfollowed := true, recurses := true, apart := false, narrowed := true }
def PlanBoundUptoSaid : Prop := planBoundUptoRow.holds Try.pinned (OpenSpec.upto planBoundSpec)

/-- 'coterielaw12.PlanReaches', WHERE WHAT IT READS IS OF BULK AT MOST 1048576: true; the input reads as it did. -/
def planReachesUptoRow : OpenClaim := { program := "ytfgammcefaomeaa", sum := "d911e1699cd843d4ccd672d0f0520b6f380084a408e634a9d3964fa3c8afea43", func := "coterie/coterielaw12.PlanReaches", spec := "planReaches", inPlace := ["slices.overlaps[int]"], unfollowed := true, recurses := true, apart := false, narrowed := true }
def PlanReachesUptoSaid : Prop := planReachesUptoRow.holds Try.pinned (OpenSpec.upto planReachesSpec)

end Rows
end Go.Proofs.Ytfgammcefaomeaa
