/-
  No cell of these rows narrows 'for every input' (looked for: loops, veiled, ifaces, maps, wideKeys, modest, calm, conditions, laid).
  DERIVED. THE GIVEN ROWS OF THIS SEAT. 13 by the template 'for every input the law returns true; each argument reads behind the call as it read before'; 0 by the template 'total and deterministic' (their statements: YtejdkmfbncedkaaTotals.lean).
  GIVEN WITH THE SEED: the statements are not yours to turn. If you find one false, say at which input.
  Laid BY PROGRAM, IN A SANDBOX (cutbox-rows.mjs): the forced cells as the released guide's own fill.sh prints them over the translation 656c30b12fe7243b… (all of the seat's roots in one cut). By AI agents, Wed Nov 11 2026. No macro, syntax, notation, axiom, sorry.
-/
import Derived.Test.YtejdkmfbncedkaaChecked
import GoSem.Claim
import GoSem.ClaimJoined
import GoSem.ClaimMapViews
import Derived.JoinedTies
import Derived.KernelRfl
namespace Go.Proofs.Ytejdkmfbncedkaa
/- THE CELL 'sum', in the pinned program and in every row, IS THE sha256 OF THE DUMP (.gsa) THAT YtejdkmfbncedkaaProg.lean LOADS. Nothing in Lean hashes anything: it is a label: what it is worth is what the hold of that sum in a sandbox is worth. -/
noncomputable def Try.pinned : Pinned := { name := "ytejdkmfbncedkaa", sum := "656c30b12fe7243b7b52ffb156a1fe5819569bb92b319855d510234baf236e7e", checked := Try.checked }
namespace Rows
def none {H : Type} : Left H := { results := [], args := [] }

/-- 'coterielaw10.TreeBuilds': WHATEVER THE INPUT: true; the input reads as it did. -/
def treeBuildsSpec : ChangeSpec := { name := "treeBuilds", fn := fun _ => fun
  | [d] => { results := [.lit (.bool true)], args := [d] }
  | _ => none }
def treeBuildsRow : OpenClaim := { program := "ytejdkmfbncedkaa", sum := "656c30b12fe7243b7b52ffb156a1fe5819569bb92b319855d510234baf236e7e", func := "coterie/coterielaw10.TreeBuilds", spec := "treeBuilds", inPlace := ["slices.overlaps[int]"], unfollowed := true, recurses := true, plainKeys := false, apart := false }
def TreeBuildsSaid : Prop := treeBuildsRow.holds Try.pinned (OpenSpec.ofChange treeBuildsSpec)

/-- ITS FALSE NEIGHBOUR: 'it returns false'. Refute it at one input. -/
def treeBuildsWrong : ChangeSpec := { name := "treeBuilds", fn := fun _ => fun
  | [d] => { results := [.lit (.bool false)], args := [d] }
  | _ => none }
def TreeBuildsWrongFalsely : Prop := treeBuildsRow.holds Try.pinned (OpenSpec.ofChange treeBuildsWrong)

/-- 'coterielaw11.RedHeight': WHATEVER THE INPUT: true; the input reads as it did. -/
def redHeightSpec : ChangeSpec := { name := "redHeight", fn := fun _ => fun
  | [d1, d2] => { results := [.lit (.bool true)], args := [d1, d2] }
  | _ => none }
def redHeightRow : OpenClaim := { program := "ytejdkmfbncedkaa", sum := "656c30b12fe7243b7b52ffb156a1fe5819569bb92b319855d510234baf236e7e", func := "coterie/coterielaw11.RedHeight", spec := "redHeight", inPlace := ["slices.overlaps[int]"], unfollowed := true, recurses := true, plainKeys := false, apart := false }
def RedHeightSaid : Prop := redHeightRow.holds Try.pinned (OpenSpec.ofChange redHeightSpec)

/-- ITS FALSE NEIGHBOUR: 'it returns false'. Refute it at one input. -/
def redHeightWrong : ChangeSpec := { name := "redHeight", fn := fun _ => fun
  | [d1, d2] => { results := [.lit (.bool false)], args := [d1, d2] }
  | _ => none }
def RedHeightWrongFalsely : Prop := redHeightRow.holds Try.pinned (OpenSpec.ofChange redHeightWrong)

/-- 'coterielaw10.TreeDoes': WHATEVER THE INPUT: true; the input reads as it did. -/
def treeDoesSpec : ChangeSpec := { name := "treeDoes", fn := fun _ => fun
  | [d1, d2] => { results := [.lit (.bool true)], args := [d1, d2] }
  | _ => none }
def treeDoesRow : OpenClaim := { program := "ytejdkmfbncedkaa", sum := "656c30b12fe7243b7b52ffb156a1fe5819569bb92b319855d510234baf236e7e", func := "coterie/coterielaw10.TreeDoes", spec := "treeDoes", inPlace := ["slices.overlaps[int]"], unfollowed := true, recurses := true, plainKeys := false, apart := false }
def TreeDoesSaid : Prop := treeDoesRow.holds Try.pinned (OpenSpec.ofChange treeDoesSpec)

/-- ITS FALSE NEIGHBOUR: 'it returns false'. Refute it at one input. -/
def treeDoesWrong : ChangeSpec := { name := "treeDoes", fn := fun _ => fun
  | [d1, d2] => { results := [.lit (.bool false)], args := [d1, d2] }
  | _ => none }
def TreeDoesWrongFalsely : Prop := treeDoesRow.holds Try.pinned (OpenSpec.ofChange treeDoesWrong)

/-- 'coterielaw11.RedTells': WHATEVER THE INPUT: true; the input reads as it did. -/
def redTellsSpec : ChangeSpec := { name := "redTells", fn := fun _ => fun
  | [d1, d2, d3] => { results := [.lit (.bool true)], args := [d1, d2, d3] }
  | _ => none }
def redTellsRow : OpenClaim := { program := "ytejdkmfbncedkaa", sum := "656c30b12fe7243b7b52ffb156a1fe5819569bb92b319855d510234baf236e7e", func := "coterie/coterielaw11.RedTells", spec := "redTells", inPlace := ["slices.overlaps[int]"], unfollowed := true, recurses := true, plainKeys := false, apart := false }
def RedTellsSaid : Prop := redTellsRow.holds Try.pinned (OpenSpec.ofChange redTellsSpec)

/-- ITS FALSE NEIGHBOUR: 'it returns false'. Refute it at one input. -/
def redTellsWrong : ChangeSpec := { name := "redTells", fn := fun _ => fun
  | [d1, d2, d3] => { results := [.lit (.bool false)], args := [d1, d2, d3] }
  | _ => none }
def RedTellsWrongFalsely : Prop := redTellsRow.holds Try.pinned (OpenSpec.ofChange redTellsWrong)

/-- 'coterielaw12.PlanAll': WHATEVER THE INPUT: true; the input reads as it did. -/
def planAllSpec : ChangeSpec := { name := "planAll", fn := fun _ => fun
  | [d1, d2, d3, d4] => { results := [.lit (.bool true)], args := [d1, d2, d3, d4] }
  | _ => none }
def planAllRow : OpenClaim := { program := "ytejdkmfbncedkaa", sum := "656c30b12fe7243b7b52ffb156a1fe5819569bb92b319855d510234baf236e7e", func := "coterie/coterielaw12.PlanAll", spec := "planAll", inPlace := ["slices.overlaps[int]"], unfollowed := true, recurses := true, plainKeys := false, apart := false }
def PlanAllSaid : Prop := planAllRow.holds Try.pinned (OpenSpec.ofChange planAllSpec)

/-- ITS FALSE NEIGHBOUR: 'it returns false'. Refute it at one input. -/
def planAllWrong : ChangeSpec := { name := "planAll", fn := fun _ => fun
  | [d1, d2, d3, d4] => { results := [.lit (.bool false)], args := [d1, d2, d3, d4] }
  | _ => none }
def PlanAllWrongFalsely : Prop := planAllRow.holds Try.pinned (OpenSpec.ofChange planAllWrong)

/-- 'coterielaw12.PlanWay': WHATEVER THE INPUT: true; the input reads as it did. -/
def planWaySpec : ChangeSpec := { name := "planWay", fn := fun _ => fun
  | [d1, d2, d3] => { results := [.lit (.bool true)], args := [d1, d2, d3] }
  | _ => none }
def planWayRow : OpenClaim := { program := "ytejdkmfbncedkaa", sum := "656c30b12fe7243b7b52ffb156a1fe5819569bb92b319855d510234baf236e7e", func := "coterie/coterielaw12.PlanWay", spec := "planWay", inPlace := ["slices.overlaps[int]"], unfollowed := true, recurses := true, plainKeys := false, apart := false }
def PlanWaySaid : Prop := planWayRow.holds Try.pinned (OpenSpec.ofChange planWaySpec)

/-- ITS FALSE NEIGHBOUR: 'it returns false'. Refute it at one input. -/
def planWayWrong : ChangeSpec := { name := "planWay", fn := fun _ => fun
  | [d1, d2, d3] => { results := [.lit (.bool false)], args := [d1, d2, d3] }
  | _ => none }
def PlanWayWrongFalsely : Prop := planWayRow.holds Try.pinned (OpenSpec.ofChange planWayWrong)

/-- 'coterielaw12.PlanChanges': WHATEVER THE INPUT: true; the input reads as it did. -/
def planChangesSpec : ChangeSpec := { name := "planChanges", fn := fun _ => fun
  | [d1, d2, d3, d4, d5] => { results := [.lit (.bool true)], args := [d1, d2, d3, d4, d5] }
  | _ => none }
def planChangesRow : OpenClaim := { program := "ytejdkmfbncedkaa", sum := "656c30b12fe7243b7b52ffb156a1fe5819569bb92b319855d510234baf236e7e", func := "coterie/coterielaw12.PlanChanges", spec := "planChanges", inPlace := ["slices.overlaps[int]"], unfollowed := true, recurses := true, plainKeys := false, apart := false }
def PlanChangesSaid : Prop := planChangesRow.holds Try.pinned (OpenSpec.ofChange planChangesSpec)

/-- ITS FALSE NEIGHBOUR: 'it returns false'. Refute it at one input. -/
def planChangesWrong : ChangeSpec := { name := "planChanges", fn := fun _ => fun
  | [d1, d2, d3, d4, d5] => { results := [.lit (.bool false)], args := [d1, d2, d3, d4, d5] }
  | _ => none }
def PlanChangesWrongFalsely : Prop := planChangesRow.holds Try.pinned (OpenSpec.ofChange planChangesWrong)

/-- 'coterielaw12.PlanKeeps': WHATEVER THE INPUT: true; the input reads as it did. -/
def planKeepsSpec : ChangeSpec := { name := "planKeeps", fn := fun _ => fun
  | [d1, d2, d3, d4, d5, d6] => { results := [.lit (.bool true)], args := [d1, d2, d3, d4, d5, d6] }
  | _ => none }
def planKeepsRow : OpenClaim := { program := "ytejdkmfbncedkaa", sum := "656c30b12fe7243b7b52ffb156a1fe5819569bb92b319855d510234baf236e7e", func := "coterie/coterielaw12.PlanKeeps", spec := "planKeeps", inPlace := ["slices.overlaps[int]"], unfollowed := true, recurses := true, plainKeys := false, apart := false }
def PlanKeepsSaid : Prop := planKeepsRow.holds Try.pinned (OpenSpec.ofChange planKeepsSpec)

/-- ITS FALSE NEIGHBOUR: 'it returns false'. Refute it at one input. -/
def planKeepsWrong : ChangeSpec := { name := "planKeeps", fn := fun _ => fun
  | [d1, d2, d3, d4, d5, d6] => { results := [.lit (.bool false)], args := [d1, d2, d3, d4, d5, d6] }
  | _ => none }
def PlanKeepsWrongFalsely : Prop := planKeepsRow.holds Try.pinned (OpenSpec.ofChange planKeepsWrong)

/-- 'coterielaw24.TermsCloses': WHATEVER THE INPUT: true; the input reads as it did. -/
def termsClosesSpec : ChangeSpec := { name := "termsCloses", fn := fun _ => fun
  | [d1, d2] => { results := [.lit (.bool true)], args := [d1, d2] }
  | _ => none }
def termsClosesRow : OpenClaim := { program := "ytejdkmfbncedkaa", sum := "656c30b12fe7243b7b52ffb156a1fe5819569bb92b319855d510234baf236e7e", func := "coterie/coterielaw24.TermsCloses", spec := "termsCloses", unfollowed := true, recurses := true, plainKeys := false, apart := false }
def TermsClosesSaid : Prop := termsClosesRow.holds Try.pinned (OpenSpec.ofChange termsClosesSpec)

/-- ITS FALSE NEIGHBOUR: 'it returns false'. Refute it at one input. -/
def termsClosesWrong : ChangeSpec := { name := "termsCloses", fn := fun _ => fun
  | [d1, d2] => { results := [.lit (.bool false)], args := [d1, d2] }
  | _ => none }
def TermsClosesWrongFalsely : Prop := termsClosesRow.holds Try.pinned (OpenSpec.ofChange termsClosesWrong)

/-- 'coterielaw24.TermsMore': WHATEVER THE INPUT: true; the input reads as it did. -/
def termsMoreSpec : ChangeSpec := { name := "termsMore", fn := fun _ => fun
  | [d1, d2, d3] => { results := [.lit (.bool true)], args := [d1, d2, d3] }
  | _ => none }
def termsMoreRow : OpenClaim := { program := "ytejdkmfbncedkaa", sum := "656c30b12fe7243b7b52ffb156a1fe5819569bb92b319855d510234baf236e7e", func := "coterie/coterielaw24.TermsMore", spec := "termsMore", unfollowed := true, recurses := true, plainKeys := false, apart := false }
def TermsMoreSaid : Prop := termsMoreRow.holds Try.pinned (OpenSpec.ofChange termsMoreSpec)

/-- ITS FALSE NEIGHBOUR: 'it returns false'. Refute it at one input. -/
def termsMoreWrong : ChangeSpec := { name := "termsMore", fn := fun _ => fun
  | [d1, d2, d3] => { results := [.lit (.bool false)], args := [d1, d2, d3] }
  | _ => none }
def TermsMoreWrongFalsely : Prop := termsMoreRow.holds Try.pinned (OpenSpec.ofChange termsMoreWrong)

/-- 'coterielaw12.PlanBound': WHATEVER THE INPUT: true; the input reads as it did. -/
def planBoundSpec : ChangeSpec := { name := "planBound", fn := fun _ => fun
  | [d1, d2, d3, d4, d5, d6] => { results := [.lit (.bool true)], args := [d1, d2, d3, d4, d5, d6] }
  | _ => none }
def planBoundRow : OpenClaim := { program := "ytejdkmfbncedkaa", sum := "656c30b12fe7243b7b52ffb156a1fe5819569bb92b319855d510234baf236e7e", func := "coterie/coterielaw12.PlanBound", spec := "planBound", inPlace := ["slices.overlaps[int]"], unfollowed := true, recurses := true, plainKeys := false, apart := false }
def PlanBoundSaid : Prop := planBoundRow.holds Try.pinned (OpenSpec.ofChange planBoundSpec)

/-- ITS FALSE NEIGHBOUR: 'it returns false'. Refute it at one input. -/
def planBoundWrong : ChangeSpec := { name := "planBound", fn := fun _ => fun
  | [d1, d2, d3, d4, d5, d6] => { results := [.lit (.bool false)], args := [d1, d2, d3, d4, d5, d6] }
  | _ => none }
def PlanBoundWrongFalsely : Prop := planBoundRow.holds Try.pinned (OpenSpec.ofChange planBoundWrong)

/-- 'coterielaw12.PlanReaches': WHATEVER THE INPUT: true; the input reads as it did. -/
def planReachesSpec : ChangeSpec := { name := "planReaches", fn := fun _ => fun
  | [d1, d2, d3, d4, d5, d6] => { results := [.lit (.bool true)], args := [d1, d2, d3, d4, d5, d6] }
  | _ => none }
def planReachesRow : OpenClaim := { program := "ytejdkmfbncedkaa", sum := "656c30b12fe7243b7b52ffb156a1fe5819569bb92b319855d510234baf236e7e", func := "coterie/coterielaw12.PlanReaches", spec := "planReaches", inPlace := ["slices.overlaps[int]"], unfollowed := true, recurses := true, plainKeys := false, apart := false }
def PlanReachesSaid : Prop := planReachesRow.holds Try.pinned (OpenSpec.ofChange planReachesSpec)

/-- ITS FALSE NEIGHBOUR: 'it returns false'. Refute it at one input. -/
def planReachesWrong : ChangeSpec := { name := "planReaches", fn := fun _ => fun
  | [d1, d2, d3, d4, d5, d6] => { results := [.lit (.bool false)], args := [d1, d2, d3, d4, d5, d6] }
  | _ => none }
def PlanReachesWrongFalsely : Prop := planReachesRow.holds Try.pinned (OpenSpec.ofChange planReachesWrong)

/-- 'coterielaw24.TermsHide': WHATEVER THE INPUT: true; the input reads as it did. -/
def termsHideSpec : ChangeSpec := { name := "termsHide", fn := fun _ => fun
  | [d1, d2, d3, d4] => { results := [.lit (.bool true)], args := [d1, d2, d3, d4] }
  | _ => none }
def termsHideRow : OpenClaim := { program := "ytejdkmfbncedkaa", sum := "656c30b12fe7243b7b52ffb156a1fe5819569bb92b319855d510234baf236e7e", func := "coterie/coterielaw24.TermsHide", spec := "termsHide", inPlace := ["slices.overlaps[int]", "slices.overlaps[coterie/api.Hold]"], unfollowed := true, recurses := true, plainKeys := false, apart := false }
def TermsHideSaid : Prop := termsHideRow.holds Try.pinned (OpenSpec.ofChange termsHideSpec)

/-- ITS FALSE NEIGHBOUR: 'it returns false'. Refute it at one input. -/
def termsHideWrong : ChangeSpec := { name := "termsHide", fn := fun _ => fun
  | [d1, d2, d3, d4] => { results := [.lit (.bool false)], args := [d1, d2, d3, d4] }
  | _ => none }
def TermsHideWrongFalsely : Prop := termsHideRow.holds Try.pinned (OpenSpec.ofChange termsHideWrong)

/- THE SECOND FORM. 'bulk': how many values and letters a reading holds, each counted each time it is reached (what is shared counts as often as it is met; a slice's spare places count too). A statement '..UptoSaid' is the law's where the arguments, and the package variables that the reading takes, are together of bulk at most 1048576: NARROWER than '..Said'. Prove '..Said' where nothing that the law and all that it calls make is longer than what came in: it says more and counts as full. Else prove '..UptoSaid'. A law counts once. -/
mutual
def uptoBulk {H : Type} : DataW H → Nat
  | .lit (.string bytes) => bytes.length + 1
  | .lit _ => 1
  | .nil => 1
  | .ptr d => uptoBulk d + 1
  | .slice elems spare => uptoBulkAll elems + uptoBulkAll spare + 1
  | .agg parts => uptoBulkAll parts + 1
  | .iface _ d => uptoBulk d + 1
  | .map entries => uptoBulkEntries entries + 1
  | .held _ => 1
def uptoBulkAll {H : Type} : List (DataW H) → Nat
  | [] => 0
  | d :: r => uptoBulk d + uptoBulkAll r
def uptoBulkEntries {H : Type} : List (Lit × DataW H) → Nat
  | [] => 0
  | x :: r => uptoBulkEntry x + uptoBulkEntries r
def uptoBulkEntry {H : Type} : Lit × DataW H → Nat
  | (.string bytes, d) => bytes.length + uptoBulk d + 1
  | (_, d) => uptoBulk d + 1
 end
def uptoSmall : (H : Type) → List (DataW H) → Bool := fun _ ds => decide (uptoBulkAll ds ≤ 1048576)
def OpenSpec.upto (s : _root_.Go.ChangeSpec) : _root_.Go.OpenSpec := { _root_.Go.OpenSpec.ofChange s with cond := some uptoSmall }

/-- 'coterielaw10.TreeBuilds', WHERE WHAT IT READS IS OF BULK AT MOST 1048576: true; the input reads as it did. -/
def treeBuildsUptoRow : OpenClaim := { program := "ytejdkmfbncedkaa", sum := "656c30b12fe7243b7b52ffb156a1fe5819569bb92b319855d510234baf236e7e", func := "coterie/coterielaw10.TreeBuilds", spec := "treeBuilds", inPlace := ["slices.overlaps[int]"], unfollowed := true, recurses := true, plainKeys := false, apart := false, narrowed := true }
def TreeBuildsUptoSaid : Prop := treeBuildsUptoRow.holds Try.pinned (OpenSpec.upto treeBuildsSpec)

/-- 'coterielaw11.RedHeight', WHERE WHAT IT READS IS OF BULK AT MOST 1048576: true; the input reads as it did. -/
def redHeightUptoRow : OpenClaim := { program := "ytejdkmfbncedkaa", sum := "656c30b12fe7243b7b52ffb156a1fe5819569bb92b319855d510234baf236e7e", func := "coterie/coterielaw11.RedHeight", spec := "redHeight", inPlace := ["slices.overlaps[int]"], unfollowed := true, recurses := true, plainKeys := false, apart := false, narrowed := true }
def RedHeightUptoSaid : Prop := redHeightUptoRow.holds Try.pinned (OpenSpec.upto redHeightSpec)

/-- 'coterielaw10.TreeDoes', WHERE WHAT IT READS IS OF BULK AT MOST 1048576: true; the input reads as it did. -/
def treeDoesUptoRow : OpenClaim := { program := "ytejdkmfbncedkaa", sum := "656c30b12fe7243b7b52ffb156a1fe5819569bb92b319855d510234baf236e7e", func := "coterie/coterielaw10.TreeDoes", spec := "treeDoes", inPlace := ["slices.overlaps[int]"], unfollowed := true, recurses := true, plainKeys := false, apart := false, narrowed := true }
def TreeDoesUptoSaid : Prop := treeDoesUptoRow.holds Try.pinned (OpenSpec.upto treeDoesSpec)

/-- 'coterielaw11.RedTells', WHERE WHAT IT READS IS OF BULK AT MOST 1048576: true; the input reads as it did. -/
def redTellsUptoRow : OpenClaim := { program := "ytejdkmfbncedkaa", sum := "656c30b12fe7243b7b52ffb156a1fe5819569bb92b319855d510234baf236e7e", func := "coterie/coterielaw11.RedTells", spec := "redTells", inPlace := ["slices.overlaps[int]"], unfollowed := true, recurses := true, plainKeys := false, apart := false, narrowed := true }
def RedTellsUptoSaid : Prop := redTellsUptoRow.holds Try.pinned (OpenSpec.upto redTellsSpec)

/-- 'coterielaw12.PlanAll', WHERE WHAT IT READS IS OF BULK AT MOST 1048576: true; the input reads as it did. -/
def planAllUptoRow : OpenClaim := { program := "ytejdkmfbncedkaa", sum := "656c30b12fe7243b7b52ffb156a1fe5819569bb92b319855d510234baf236e7e", func := "coterie/coterielaw12.PlanAll", spec := "planAll", inPlace := ["slices.overlaps[int]"], unfollowed := true, recurses := true, plainKeys := false, apart := false, narrowed := true }
def PlanAllUptoSaid : Prop := planAllUptoRow.holds Try.pinned (OpenSpec.upto planAllSpec)

/-- 'coterielaw12.PlanWay', WHERE WHAT IT READS IS OF BULK AT MOST 1048576: true; the input reads as it did. -/
def planWayUptoRow : OpenClaim := { program := "ytejdkmfbncedkaa", sum := "656c30b12fe7243b7b52ffb156a1fe5819569bb92b319855d510234baf236e7e", func := "coterie/coterielaw12.PlanWay", spec := "planWay", inPlace := ["slices.overlaps[int]"], unfollowed := true, recurses := true, plainKeys := false, apart := false, narrowed := true }
def PlanWayUptoSaid : Prop := planWayUptoRow.holds Try.pinned (OpenSpec.upto planWaySpec)

/-- 'coterielaw12.PlanChanges', WHERE WHAT IT READS IS OF BULK AT MOST 1048576: true; the input reads as it did. -/
def planChangesUptoRow : OpenClaim := { program := "ytejdkmfbncedkaa", sum := "656c30b12fe7243b7b52ffb156a1fe5819569bb92b319855d510234baf236e7e", func := "coterie/coterielaw12.PlanChanges", spec := "planChanges", inPlace := ["slices.overlaps[int]"], unfollowed := true, recurses := true, plainKeys := false, apart := false, narrowed := true }
def PlanChangesUptoSaid : Prop := planChangesUptoRow.holds Try.pinned (OpenSpec.upto planChangesSpec)

/-- 'coterielaw12.PlanKeeps', WHERE WHAT IT READS IS OF BULK AT MOST 1048576: true; the input reads as it did. -/
def planKeepsUptoRow : OpenClaim := { program := "ytejdkmfbncedkaa", sum := "656c30b12fe7243b7b52ffb156a1fe5819569bb92b319855d510234baf236e7e", func := "coterie/coterielaw12.PlanKeeps", spec := "planKeeps", inPlace := ["slices.overlaps[int]"], unfollowed := true, recurses := true, plainKeys := false, apart := false, narrowed := true }
def PlanKeepsUptoSaid : Prop := planKeepsUptoRow.holds Try.pinned (OpenSpec.upto planKeepsSpec)

/-- 'coterielaw24.TermsCloses', WHERE WHAT IT READS IS OF BULK AT MOST 1048576: true; the input reads as it did. -/
def termsClosesUptoRow : OpenClaim := { program := "ytejdkmfbncedkaa", sum := "656c30b12fe7243b7b52ffb156a1fe5819569bb92b319855d510234baf236e7e", func := "coterie/coterielaw24.TermsCloses", spec := "termsCloses", unfollowed := true, recurses := true, plainKeys := false, apart := false, narrowed := true }
def TermsClosesUptoSaid : Prop := termsClosesUptoRow.holds Try.pinned (OpenSpec.upto termsClosesSpec)

/-- 'coterielaw24.TermsMore', WHERE WHAT IT READS IS OF BULK AT MOST 1048576: true; the input reads as it did. -/
def termsMoreUptoRow : OpenClaim := { program := "ytejdkmfbncedkaa", sum := "656c30b12fe7243b7b52ffb156a1fe5819569bb92b319855d510234baf236e7e", func := "coterie/coterielaw24.TermsMore", spec := "termsMore", unfollowed := true, recurses := true, plainKeys := false, apart := false, narrowed := true }
def TermsMoreUptoSaid : Prop := termsMoreUptoRow.holds Try.pinned (OpenSpec.upto termsMoreSpec)

/-- 'coterielaw12.PlanBound', WHERE WHAT IT READS IS OF BULK AT MOST 1048576: true; the input reads as it did. -/
def planBoundUptoRow : OpenClaim := { program := "ytejdkmfbncedkaa", sum := "656c30b12fe7243b7b52ffb156a1fe5819569bb92b319855d510234baf236e7e", func := "coterie/coterielaw12.PlanBound", spec := "planBound", inPlace := ["slices.overlaps[int]"], unfollowed := true, recurses := true, plainKeys := false, apart := false, narrowed := true }
def PlanBoundUptoSaid : Prop := planBoundUptoRow.holds Try.pinned (OpenSpec.upto planBoundSpec)

/-- 'coterielaw12.PlanReaches', WHERE WHAT IT READS IS OF BULK AT MOST 1048576: true; the input reads as it did. -/
def planReachesUptoRow : OpenClaim := { program := "ytejdkmfbncedkaa", sum := "656c30b12fe7243b7b52ffb156a1fe5819569bb92b319855d510234baf236e7e", func := "coterie/coterielaw12.PlanReaches", spec := "planReaches", inPlace := ["slices.overlaps[int]"], unfollowed := true, recurses := true, plainKeys := false, apart := false, narrowed := true }
def PlanReachesUptoSaid : Prop := planReachesUptoRow.holds Try.pinned (OpenSpec.upto planReachesSpec)

/-- 'coterielaw24.TermsHide', WHERE WHAT IT READS IS OF BULK AT MOST 1048576: true; the input reads as it did. -/
def termsHideUptoRow : OpenClaim := { program := "ytejdkmfbncedkaa", sum := "656c30b12fe7243b7b52ffb156a1fe5819569bb92b319855d510234baf236e7e", func := "coterie/coterielaw24.TermsHide", spec := "termsHide", inPlace := ["slices.overlaps[int]", "slices.overlaps[coterie/api.Hold]"], unfollowed := true, recurses := true, plainKeys := false, apart := false, narrowed := true }
def TermsHideUptoSaid : Prop := termsHideUptoRow.holds Try.pinned (OpenSpec.upto termsHideSpec)

end Rows
end Go.Proofs.Ytejdkmfbncedkaa
