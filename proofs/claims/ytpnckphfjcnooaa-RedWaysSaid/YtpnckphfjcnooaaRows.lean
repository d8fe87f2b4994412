/-
  No cell of these rows narrows 'for every input' (looked for: loops, veiled, ifaces, maps, wideKeys, modest, calm, conditions, laid).
  DERIVED. THE GIVEN ROWS OF THIS SEAT. 14 by the template 'for every input the law returns true; each argument reads behind the call as it read before'; 0 by the template 'total and deterministic' (their statements: YtpnckphfjcnooaaTotals.lean).
  GIVEN WITH THE SEED: the statements are not yours to turn. If you find one false, say at which input.
  Laid BY PROGRAM, IN A SANDBOX (cutbox-rows.mjs): the forced cells as the released guide's own fill.sh prints them over the translation b00730d8ab4a2dec… (all of the seat's roots in one cut). By AI agents, Wed Nov 11 2026. No macro, syntax, notation, axiom, sorry.
-/
import Derived.Test.YtpnckphfjcnooaaChecked
import GoSem.Claim
import GoSem.ClaimJoined
import GoSem.ClaimMapViews
import Derived.JoinedTies
import Derived.KernelRfl
namespace Go.Proofs.Ytpnckphfjcnooaa
/- THE CELL 'sum', in the pinned program and in every row, IS THE sha256 OF THE DUMP (.gsa) THAT YtpnckphfjcnooaaProg.lean LOADS. Nothing in Lean hashes anything: it is a label: what it is worth is what the hold of that sum in a sandbox is worth. -/
noncomputable def Try.pinned : Pinned := { name := "ytpnckphfjcnooaa", sum := "b00730d8ab4a2dec65ad767a8ae135ce9050c21f860f7d742380e2b36cbfb713", checked := Try.checked }
namespace Rows
def none {H : Type} : Left H := { results := [], args := [] }

/-- 'coterielaw10.TreeBuilds': WHATEVER THE INPUT: true; the input reads as it did. -/
def treeBuildsSpec : ChangeSpec := { name := "treeBuilds", fn := fun _ => fun
  | [d] => { results := [.lit (.bool true)], args := [d] }
  | _ => none }
def treeBuildsRow : OpenClaim := { program := "ytpnckphfjcnooaa", sum := "b00730d8ab4a2dec65ad767a8ae135ce9050c21f860f7d742380e2b36cbfb713", func := "coterie/coterielaw10.TreeBuilds", spec := "treeBuilds", inPlace := ["slices.overlaps[int]"], unfollowed := true, recurses := true, apart := false }
def TreeBuildsSaid : Prop := treeBuildsRow.holds Try.pinned (OpenSpec.ofChange treeBuildsSpec)

/-- ITS FALSE NEIGHBOUR: 'it returns false'. Refute it at one input. -/
def treeBuildsWrong : ChangeSpec := { name := "treeBuilds", fn := fun _ => fun
  | [d] => { results := [.lit (.bool false)], args := [d] }
  | _ => none }
def TreeBuildsWrongFalsely : Prop := treeBuildsRow.holds Try.pinned (OpenSpec.ofChange treeBuildsWrong)

/-- 'coterielaw10.TreeOrder': WHATEVER THE INPUT: true; the input reads as it did. -/
def treeOrderSpec : ChangeSpec := { name := "treeOrder", fn := fun _ => fun
  | [d1, d2] => { results := [.lit (.bool true)], args := [d1, d2] }
  | _ => none }
def treeOrderRow : OpenClaim := { program := "ytpnckphfjcnooaa", sum := "b00730d8ab4a2dec65ad767a8ae135ce9050c21f860f7d742380e2b36cbfb713", func := "coterie/coterielaw10.TreeOrder", spec := "treeOrder", inPlace := ["slices.overlaps[int]"], unfollowed := true, recurses := true, apart := false }
def TreeOrderSaid : Prop := treeOrderRow.holds Try.pinned (OpenSpec.ofChange treeOrderSpec)

/-- ITS FALSE NEIGHBOUR: 'it returns false'. Refute it at one input. -/
def treeOrderWrong : ChangeSpec := { name := "treeOrder", fn := fun _ => fun
  | [d1, d2] => { results := [.lit (.bool false)], args := [d1, d2] }
  | _ => none }
def TreeOrderWrongFalsely : Prop := treeOrderRow.holds Try.pinned (OpenSpec.ofChange treeOrderWrong)

/-- 'coterielaw11.RedKinds': WHATEVER THE INPUT: true; the input reads as it did. -/
def redKindsSpec : ChangeSpec := { name := "redKinds", fn := fun _ => fun
  | [d] => { results := [.lit (.bool true)], args := [d] }
  | _ => none }
def redKindsRow : OpenClaim := { program := "ytpnckphfjcnooaa", sum := "b00730d8ab4a2dec65ad767a8ae135ce9050c21f860f7d742380e2b36cbfb713", func := "coterie/coterielaw11.RedKinds", spec := "redKinds", inPlace := ["slices.overlaps[int]"], unfollowed := true, recurses := true, apart := false }
def RedKindsSaid : Prop := redKindsRow.holds Try.pinned (OpenSpec.ofChange redKindsSpec)

/-- ITS FALSE NEIGHBOUR: 'it returns false'. Refute it at one input. -/
def redKindsWrong : ChangeSpec := { name := "redKinds", fn := fun _ => fun
  | [d] => { results := [.lit (.bool false)], args := [d] }
  | _ => none }
def RedKindsWrongFalsely : Prop := redKindsRow.holds Try.pinned (OpenSpec.ofChange redKindsWrong)

/-- 'coterielaw10.TreeTells': WHATEVER THE INPUT: true; the input reads as it did. -/
def treeTellsSpec : ChangeSpec := { name := "treeTells", fn := fun _ => fun
  | [d1, d2, d3, d4] => { results := [.lit (.bool true)], args := [d1, d2, d3, d4] }
  | _ => none }
def treeTellsRow : OpenClaim := { program := "ytpnckphfjcnooaa", sum := "b00730d8ab4a2dec65ad767a8ae135ce9050c21f860f7d742380e2b36cbfb713", func := "coterie/coterielaw10.TreeTells", spec := "treeTells", inPlace := ["slices.overlaps[int]"], unfollowed := true, recurses := true, apart := false }
def TreeTellsSaid : Prop := treeTellsRow.holds Try.pinned (OpenSpec.ofChange treeTellsSpec)

/-- ITS FALSE NEIGHBOUR: 'it returns false'. Refute it at one input. -/
def treeTellsWrong : ChangeSpec := { name := "treeTells", fn := fun _ => fun
  | [d1, d2, d3, d4] => { results := [.lit (.bool false)], args := [d1, d2, d3, d4] }
  | _ => none }
def TreeTellsWrongFalsely : Prop := treeTellsRow.holds Try.pinned (OpenSpec.ofChange treeTellsWrong)

/-- 'coterielaw10.TreeSpans': WHATEVER THE INPUT: true; the input reads as it did. -/
def treeSpansSpec : ChangeSpec := { name := "treeSpans", fn := fun _ => fun
  | [d1, d2] => { results := [.lit (.bool true)], args := [d1, d2] }
  | _ => none }
def treeSpansRow : OpenClaim := { program := "ytpnckphfjcnooaa", sum := "b00730d8ab4a2dec65ad767a8ae135ce9050c21f860f7d742380e2b36cbfb713", func := "coterie/coterielaw10.TreeSpans", spec := "treeSpans", inPlace := ["slices.overlaps[int]"], unfollowed := true, recurses := true, apart := false }
def TreeSpansSaid : Prop := treeSpansRow.holds Try.pinned (OpenSpec.ofChange treeSpansSpec)

/-- ITS FALSE NEIGHBOUR: 'it returns false'. Refute it at one input. -/
def treeSpansWrong : ChangeSpec := { name := "treeSpans", fn := fun _ => fun
  | [d1, d2] => { results := [.lit (.bool false)], args := [d1, d2] }
  | _ => none }
def TreeSpansWrongFalsely : Prop := treeSpansRow.holds Try.pinned (OpenSpec.ofChange treeSpansWrong)

/-- 'coterielaw11.RedSpans': WHATEVER THE INPUT: true; the input reads as it did. -/
def redSpansSpec : ChangeSpec := { name := "redSpans", fn := fun _ => fun
  | [d1, d2] => { results := [.lit (.bool true)], args := [d1, d2] }
  | _ => none }
def redSpansRow : OpenClaim := { program := "ytpnckphfjcnooaa", sum := "b00730d8ab4a2dec65ad767a8ae135ce9050c21f860f7d742380e2b36cbfb713", func := "coterie/coterielaw11.RedSpans", spec := "redSpans", inPlace := ["slices.overlaps[int]"], unfollowed := true, recurses := true, apart := false }
def RedSpansSaid : Prop := redSpansRow.holds Try.pinned (OpenSpec.ofChange redSpansSpec)

/-- ITS FALSE NEIGHBOUR: 'it returns false'. Refute it at one input. -/
def redSpansWrong : ChangeSpec := { name := "redSpans", fn := fun _ => fun
  | [d1, d2] => { results := [.lit (.bool false)], args := [d1, d2] }
  | _ => none }
def RedSpansWrongFalsely : Prop := redSpansRow.holds Try.pinned (OpenSpec.ofChange redSpansWrong)

/-- 'coterielaw11.RedHeight': WHATEVER THE INPUT: true; the input reads as it did. -/
def redHeightSpec : ChangeSpec := { name := "redHeight", fn := fun _ => fun
  | [d1, d2] => { results := [.lit (.bool true)], args := [d1, d2] }
  | _ => none }
def redHeightRow : OpenClaim := { program := "ytpnckphfjcnooaa", sum := "b00730d8ab4a2dec65ad767a8ae135ce9050c21f860f7d742380e2b36cbfb713", func := "coterie/coterielaw11.RedHeight", spec := "redHeight", inPlace := ["slices.overlaps[int]"], unfollowed := true, recurses := true, apart := false }
def RedHeightSaid : Prop := redHeightRow.holds Try.pinned (OpenSpec.ofChange redHeightSpec)

/-- ITS FALSE NEIGHBOUR: 'it returns false'. Refute it at one input. -/
def redHeightWrong : ChangeSpec := { name := "redHeight", fn := fun _ => fun
  | [d1, d2] => { results := [.lit (.bool false)], args := [d1, d2] }
  | _ => none }
def RedHeightWrongFalsely : Prop := redHeightRow.holds Try.pinned (OpenSpec.ofChange redHeightWrong)

/-- 'coterielaw11.RedSame': WHATEVER THE INPUT: true; the input reads as it did. -/
def redSameSpec : ChangeSpec := { name := "redSame", fn := fun _ => fun
  | [d1, d2] => { results := [.lit (.bool true)], args := [d1, d2] }
  | _ => none }
def redSameRow : OpenClaim := { program := "ytpnckphfjcnooaa", sum := "b00730d8ab4a2dec65ad767a8ae135ce9050c21f860f7d742380e2b36cbfb713", func := "coterie/coterielaw11.RedSame", spec := "redSame", inPlace := ["slices.overlaps[int]"], unfollowed := true, recurses := true, apart := false }
def RedSameSaid : Prop := redSameRow.holds Try.pinned (OpenSpec.ofChange redSameSpec)

/-- ITS FALSE NEIGHBOUR: 'it returns false'. Refute it at one input. -/
def redSameWrong : ChangeSpec := { name := "redSame", fn := fun _ => fun
  | [d1, d2] => { results := [.lit (.bool false)], args := [d1, d2] }
  | _ => none }
def RedSameWrongFalsely : Prop := redSameRow.holds Try.pinned (OpenSpec.ofChange redSameWrong)

/-- 'coterielaw10.TreeDoes': WHATEVER THE INPUT: true; the input reads as it did. -/
def treeDoesSpec : ChangeSpec := { name := "treeDoes", fn := fun _ => fun
  | [d1, d2] => { results := [.lit (.bool true)], args := [d1, d2] }
  | _ => none }
def treeDoesRow : OpenClaim := { program := "ytpnckphfjcnooaa", sum := "b00730d8ab4a2dec65ad767a8ae135ce9050c21f860f7d742380e2b36cbfb713", func := "coterie/coterielaw10.TreeDoes", spec := "treeDoes", inPlace := ["slices.overlaps[int]"], unfollowed := true, recurses := true, apart := false }
def TreeDoesSaid : Prop := treeDoesRow.holds Try.pinned (OpenSpec.ofChange treeDoesSpec)

/-- ITS FALSE NEIGHBOUR: 'it returns false'. Refute it at one input. -/
def treeDoesWrong : ChangeSpec := { name := "treeDoes", fn := fun _ => fun
  | [d1, d2] => { results := [.lit (.bool false)], args := [d1, d2] }
  | _ => none }
def TreeDoesWrongFalsely : Prop := treeDoesRow.holds Try.pinned (OpenSpec.ofChange treeDoesWrong)

/-- 'coterielaw10.TreeStays': WHATEVER THE INPUT: true; the input reads as it did. -/
def treeStaysSpec : ChangeSpec := { name := "treeStays", fn := fun _ => fun
  | [d] => { results := [.lit (.bool true)], args := [d] }
  | _ => none }
def treeStaysRow : OpenClaim := { program := "ytpnckphfjcnooaa", sum := "b00730d8ab4a2dec65ad767a8ae135ce9050c21f860f7d742380e2b36cbfb713", func := "coterie/coterielaw10.TreeStays", spec := "treeStays", inPlace := ["slices.overlaps[int]"], unfollowed := true, recurses := true, apart := false }
def TreeStaysSaid : Prop := treeStaysRow.holds Try.pinned (OpenSpec.ofChange treeStaysSpec)

/-- ITS FALSE NEIGHBOUR: 'it returns false'. Refute it at one input. -/
def treeStaysWrong : ChangeSpec := { name := "treeStays", fn := fun _ => fun
  | [d] => { results := [.lit (.bool false)], args := [d] }
  | _ => none }
def TreeStaysWrongFalsely : Prop := treeStaysRow.holds Try.pinned (OpenSpec.ofChange treeStaysWrong)

/-- 'coterielaw10.TreeBack': WHATEVER THE INPUT: true; the input reads as it did. -/
def treeBackSpec : ChangeSpec := { name := "treeBack", fn := fun _ => fun
  | [d1, d2] => { results := [.lit (.bool true)], args := [d1, d2] }
  | _ => none }
def treeBackRow : OpenClaim := { program := "ytpnckphfjcnooaa", sum := "b00730d8ab4a2dec65ad767a8ae135ce9050c21f860f7d742380e2b36cbfb713", func := "coterie/coterielaw10.TreeBack", spec := "treeBack", inPlace := ["slices.overlaps[int]"], unfollowed := true, recurses := true, apart := false }
def TreeBackSaid : Prop := treeBackRow.holds Try.pinned (OpenSpec.ofChange treeBackSpec)

/-- ITS FALSE NEIGHBOUR: 'it returns false'. Refute it at one input. -/
def treeBackWrong : ChangeSpec := { name := "treeBack", fn := fun _ => fun
  | [d1, d2] => { results := [.lit (.bool false)], args := [d1, d2] }
  | _ => none }
def TreeBackWrongFalsely : Prop := treeBackRow.holds Try.pinned (OpenSpec.ofChange treeBackWrong)

/-- 'coterielaw10.TreeNear': WHATEVER THE INPUT: true; the input reads as it did. -/
def treeNearSpec : ChangeSpec := { name := "treeNear", fn := fun _ => fun
  | [d1, d2] => { results := [.lit (.bool true)], args := [d1, d2] }
  | _ => none }
def treeNearRow : OpenClaim := { program := "ytpnckphfjcnooaa", sum := "b00730d8ab4a2dec65ad767a8ae135ce9050c21f860f7d742380e2b36cbfb713", func := "coterie/coterielaw10.TreeNear", spec := "treeNear", inPlace := ["slices.overlaps[int]"], unfollowed := true, recurses := true, apart := false }
def TreeNearSaid : Prop := treeNearRow.holds Try.pinned (OpenSpec.ofChange treeNearSpec)

/-- ITS FALSE NEIGHBOUR: 'it returns false'. Refute it at one input. -/
def treeNearWrong : ChangeSpec := { name := "treeNear", fn := fun _ => fun
  | [d1, d2] => { results := [.lit (.bool false)], args := [d1, d2] }
  | _ => none }
def TreeNearWrongFalsely : Prop := treeNearRow.holds Try.pinned (OpenSpec.ofChange treeNearWrong)

/-- 'coterielaw11.RedWays': WHATEVER THE INPUT: true; the input reads as it did. -/
def redWaysSpec : ChangeSpec := { name := "redWays", fn := fun _ => fun
  | [d1, d2, d3] => { results := [.lit (.bool true)], args := [d1, d2, d3] }
  | _ => none }
def redWaysRow : OpenClaim := { program := "ytpnckphfjcnooaa", sum := "b00730d8ab4a2dec65ad767a8ae135ce9050c21f860f7d742380e2b36cbfb713", func := "coterie/coterielaw11.RedWays", spec := "redWays", inPlace := ["slices.overlaps[int]"], unfollowed := true, recurses := true, apart := false }
def RedWaysSaid : Prop := redWaysRow.holds Try.pinned (OpenSpec.ofChange redWaysSpec)

/-- ITS FALSE NEIGHBOUR: 'it returns false'. Refute it at one input. -/
def redWaysWrong : ChangeSpec := { name := "redWays", fn := fun _ => fun
  | [d1, d2, d3] => { results := [.lit (.bool false)], args := [d1, d2, d3] }
  | _ => none }
def RedWaysWrongFalsely : Prop := redWaysRow.holds Try.pinned (OpenSpec.ofChange redWaysWrong)

/-- 'coterielaw11.RedTells': WHATEVER THE INPUT: true; the input reads as it did. -/
def redTellsSpec : ChangeSpec := { name := "redTells", fn := fun _ => fun
  | [d1, d2, d3] => { results := [.lit (.bool true)], args := [d1, d2, d3] }
  | _ => none }
def redTellsRow : OpenClaim := { program := "ytpnckphfjcnooaa", sum := "b00730d8ab4a2dec65ad767a8ae135ce9050c21f860f7d742380e2b36cbfb713", func := "coterie/coterielaw11.RedTells", spec := "redTells", inPlace := ["slices.overlaps[int]"], unfollowed := true, recurses := true, apart := false }
def RedTellsSaid : Prop := redTellsRow.holds Try.pinned (OpenSpec.ofChange redTellsSpec)

/-- ITS FALSE NEIGHBOUR: 'it returns false'. Refute it at one input. -/
def redTellsWrong : ChangeSpec := { name := "redTells", fn := fun _ => fun
  | [d1, d2, d3] => { results := [.lit (.bool false)], args := [d1, d2, d3] }
  | _ => none }
def RedTellsWrongFalsely : Prop := redTellsRow.holds Try.pinned (OpenSpec.ofChange redTellsWrong)

/- THE SECOND FORM. 'bulk': how many values and letters a reading holds, each counted each time it is reached (what is shared counts as often as it is met; a slice's spare places count too). A statement '..UptoSaid' is the law's where the arguments, and the package variables that the reading takes, are together of bulk at most 1048576: NARROWER than '..Said'. Prove '..Said' where nothing that the law and all that it calls make is longer than what came in: it says more and counts as full. Else prove '..UptoSaid'. A law counts once. -/
mutual
def uptoBulk {H : Type} : DataW H → Nat
  | .lit (.string bytes) => bytes.length + 1
  | .lit _ => 1
  | .nil => 1
  | .ptr d => uptoBulk d + 1
  | .slice elems spare => uptoBulkAll elems + uptoBulkAll spare + 1
  | .agg parts => uptoBulkAll parts + 1
  | .iface _ d => uptoBulk d + 1
  | .map entries => uptoBulkEntries entries + 1
  | .held _ => 1
def uptoBulkAll {H : Type} : List (DataW H) → Nat
  | [] => 0
  | d :: r => uptoBulk d + uptoBulkAll r
def uptoBulkEntries {H : Type} : List (Lit × DataW H) → Nat
  | [] => 0
  | x :: r => uptoBulkEntry x + uptoBulkEntries r
def uptoBulkEntry {H : Type} : Lit × DataW H → Nat
  | (.string bytes, d) => bytes.length + uptoBulk d + 1
  | (_, d) => uptoBulk d + 1
 end
def uptoSmall : (H : Type) → List (DataW H) → Bool := fun _ ds => decide (uptoBulkAll ds ≤ 1048576)
def OpenSpec.upto (s : _root_.Go.ChangeSpec) : _root_.Go.OpenSpec := { _root_.Go.OpenSpec.ofChange s with cond := some uptoSmall }

/-- 'coterielaw10.TreeBuilds', WHERE WHAT IT READS IS OF BULK AT MOST 1048576: true; the input reads as it did. -/
def treeBuildsUptoRow : OpenClaim := { program := "ytpnckphfjcnooaa", sum := "b00730d8ab4a2dec65ad767a8ae135ce9050c21f860f7d742380e2b36cbfb713", func := "coterie/coterielaw10.TreeBuilds", spec := "treeBuilds", inPlace := ["slices.overlaps[int]"], unfollowed := true, recurses := true, apart := false, narrowed := true }
def TreeBuildsUptoSaid : Prop := treeBuildsUptoRow.holds Try.pinned (OpenSpec.upto treeBuildsSpec)

/-- 'coterielaw10.TreeOrder', WHERE WHAT IT READS IS OF BULK AT MOST 1048576: true; the input reads as it did. -/
def treeOrderUptoRow : OpenClaim := { program := "ytpnckphfjcnooaa", sum := "b00730d8ab4a2dec65ad767a8ae135ce9050c21f860f7d742380e2b36cbfb713", func := "coterie/coterielaw10.TreeOrder", spec := "treeOrder", inPlace := ["slices.overlaps[int]"], unfollowed := true, recurses := true, apart := false, narrowed := true }
def TreeOrderUptoSaid : Prop := treeOrderUptoRow.holds Try.pinned (OpenSpec.upto treeOrderSpec)

/-- 'coterielaw11.RedKinds', WHERE WHAT IT READS IS OF BULK AT MOST 1048576: true; the input reads as it did. -/
def redKindsUptoRow : OpenClaim := { program := "ytpnckphfjcnooaa", sum := "b00730d8ab4a2dec65ad767a8ae135ce9050c21f860f7d742380e2b36cbfb713", func := "coterie/coterielaw11.RedKinds", spec := "redKinds", inPlace := ["slices.overlaps[int]"], unfollowed := true, recurses := true, apart := false, narrowed := true }
def RedKindsUptoSaid : Prop := redKindsUptoRow.holds Try.pinned (OpenSpec.upto redKindsSpec)

/-- 'coterielaw10.TreeTells', WHERE WHAT IT READS IS OF BULK AT MOST 1048576: true; the input reads as it did. -/
def treeTellsUptoRow : OpenClaim := { program := "ytpnckphfjcnooaa", sum := "b00730d8ab4a2dec65ad767a8ae135ce9050c21f860f7d742380e2b36cbfb713", func := "coterie/coterielaw10.TreeTells", spec := "treeTells", inPlace := ["slices.overlaps[int]"], unfollowed := true, recurses := true, apart := false, narrowed := true }
def TreeTellsUptoSaid : Prop := treeTellsUptoRow.holds Try.pinned (OpenSpec.upto treeTellsSpec)

/-- 'coterielaw10.TreeSpans', WHERE WHAT IT READS IS OF BULK AT MOST 1048576: true; the input reads as it did. -/
def treeSpansUptoRow : OpenClaim := { program := "ytpnckphfjcnooaa", sum := "b00730d8ab4a2dec65ad767a8ae135ce9050c21f860f7d742380e2b36cbfb713", func := "coterie/coterielaw10.TreeSpans", spec := "treeSpans", inPlace := ["slices.overlaps[int]"], unfollowed := true, recurses := true, apart := false, narrowed := true }
def TreeSpansUptoSaid : Prop := treeSpansUptoRow.holds Try.pinned (OpenSpec.upto treeSpansSpec)

/-- 'coterielaw11.RedSpans', WHERE WHAT IT READS IS OF BULK AT MOST 1048576: true; the input reads as it did. -/
def redSpansUptoRow : OpenClaim := { program := "ytpnckphfjcnooaa", sum := "b00730d8ab4a2dec65ad767a8ae135ce9050c21f860f7d742380e2b36cbfb713", func := "coterie/coterielaw11.RedSpans", spec := "redSpans", inPlace := ["slices.overlaps[int]"], unfollowed := true, recurses := true, apart := false, narrowed := true }
def RedSpansUptoSaid : Prop := redSpansUptoRow.holds Try.pinned (OpenSpec.upto redSpansSpec)

/-- 'coterielaw11.RedHeight', WHERE WHAT IT READS IS OF BULK AT MOST 1048576: true; the input reads as it did. -/
def redHeightUptoRow : OpenClaim := { program := "ytpnckphfjcnooaa", sum := "b00730d8ab4a2dec65ad767a8ae135ce9050c21f860f7d742380e2b36cbfb713", func := "coterie/coterielaw11.RedHeight", spec := "redHeight", inPlace := ["slices.overlaps[int]"], unfollowed := true, recurses := true, apart := false, narrowed := true }
def RedHeightUptoSaid : Prop := redHeightUptoRow.holds Try.pinned (OpenSpec.upto redHeightSpec)

/-- 'coterielaw11.RedSame', WHERE WHAT IT READS IS OF BULK AT MOST 1048576: true; the input reads as it did. -/
def redSameUptoRow : OpenClaim := { program := "ytpnckphfjcnooaa", sum := "b00730d8ab4a2dec65ad767a8ae135ce9050c21f860f7d742380e2b36cbfb713", func := "coterie/coterielaw11.RedSame", spec := "redSame", inPlace := ["slices.overlaps[int]"], unfollowed := true, recurses := true, apart := false, narrowed := true }
def RedSameUptoSaid : Prop := redSameUptoRow.holds Try.pinned (OpenSpec.upto redSameSpec)

/-- 'coterielaw10.TreeDoes', WHERE WHAT IT READS IS OF BULK AT MOST 1048576: true; the input reads as it did. -/
def treeDoesUptoRow : OpenClaim := { program := "ytpnckphfjcnooaa", sum := "b00730d8ab4a2dec65ad767a8ae135ce9050c21f860f7d742380e2b36cbfb713", func := "coterie/coterielaw10.TreeDoes", spec := "treeDoes", inPlace := ["slices.overlaps[int]"], unfollowed := true, recurses := true, apart := false, narrowed := true }
def TreeDoesUptoSaid : Prop := treeDoesUptoRow.holds Try.pinned (OpenSpec.upto treeDoesSpec)

/-- 'coterielaw10.TreeStays', WHERE WHAT IT READS IS OF BULK AT MOST 1048576: true; the input reads as it did. -/
def treeStaysUptoRow : OpenClaim := { program := "ytpnckphfjcnooaa", sum := "b00730d8ab4a2dec65ad767a8ae135ce9050c21f860f7d742380e2b36cbfb713", func := "coterie/coterielaw10.TreeStays", spec := "treeStays", inPlace := ["slices.overlaps[int]"], unfollowed := true, recurses := true, apart := false, narrowed := true }
def TreeStaysUptoSaid : Prop := treeStaysUptoRow.holds Try.pinned (OpenSpec.upto treeStaysSpec)

/-- 'coterielaw10.TreeBack', WHERE WHAT IT READS IS OF BULK AT MOST 1048576: true; the input reads as it did. -/
def treeBackUptoRow : OpenClaim := { program := "ytpnckphfjcnooaa", sum := "b00730d8ab4a2dec65ad767a8ae135ce9050c21f860f7d742380e2b36cbfb713", func := "coterie/coterielaw10.TreeBack", spec := "treeBack", inPlace := ["slices.overlaps[int]"], unfollowed := true, recurses := true, apart := false, narrowed := true }
def TreeBackUptoSaid : Prop := treeBackUptoRow.holds Try.pinned (OpenSpec.upto treeBackSpec)

/-- 'coterielaw10.TreeNear', WHERE WHAT IT READS IS OF BULK AT MOST 1048576: true; the input reads as it did. -/
def treeNearUptoRow : OpenClaim := { program := "ytpnckphfjcnooaa", sum := "b00730d8ab4a2dec65ad767a8ae135ce9050c21f860f7d742380e2b36cbfb713", func := "coterie/coterielaw10.TreeNear", spec := "treeNear", inPlace := ["slices.overlaps[int]"], unfollowed := true, recurses := true, apart := false, narrowed := true }
def TreeNearUptoSaid : Prop := treeNearUptoRow.holds Try.pinned (OpenSpec.upto treeNearSpec)

/-- 'coterielaw11.RedWays', WHERE WHAT IT READS IS OF BULK AT MOST 1048576: true; the input reads as it did. -/
def redWaysUptoRow : OpenClaim := { program := "ytpnckphfjcnooaa", sum := "b00730d8ab4a2dec65ad767a8ae135ce9050c21f860f7d742380e2b36cbfb713", func := "coterie/coterielaw11.RedWays", spec := "redWays", inPlace := ["slices.overlaps[int]"], unfollowed := true, recurses := true, apart := false, narrowed := true }
def RedWaysUptoSaid : Prop := redWaysUptoRow.holds Try.pinned (OpenSpec.upto redWaysSpec)

/-- 'coterielaw11.RedTells', WHERE WHAT IT READS IS OF BULK AT MOST 1048576: true; the input reads as it did. -/
def redTellsUptoRow : OpenClaim := { program := "ytpnckphfjcnooaa", sum := "b00730d8ab4a2dec65ad767a8ae135ce9050c21f860f7d742380e2b36cbfb713", func := "coterie/coterielaw11.RedTells", spec := "redTells", inPlace := ["slices.overlaps[int]"], unfollowed := true, recurses := true, apart := false, narrowed := true }
def RedTellsUptoSaid : Prop := redTellsUptoRow.holds Try.pinned (OpenSpec.upto redTellsSpec)

end Rows
end Go.Proofs.Ytpnckphfjcnooaa
