/-
  NARROWER THAN 'FOR EVERY INPUT', by the rows' own cells (each row's printed sentence says how): ShaSums: laid · MacKeys: laid · ShaRest: laid · MacEqual: laid · MacSums: laid · ShaSteps: laid · ShaParts: laid · ShaLong: laid · MacPrefix: laid · WireWrites: laid · WireOrder: laid · WireStands: laid · WireSplits: laid · WireReads: laid · WireBack: laid · MacExpands: laid.
  DERIVED. THE GIVEN ROWS OF THIS SEAT. 16 by the template 'for every input the law returns true; each argument reads behind the call as it read before'; 0 by the template 'total and deterministic' (their statements: YtifehfcgmodmaaaDoorTotals.lean).
  GIVEN WITH THE SEED: the statements are not yours to turn. If you find one false, say at which input.
  Laid BY PROGRAM, IN A SANDBOX (cutbox-rows.mjs): the forced cells as the released guide's own fill.sh prints them over the translation 1d05bf53c0a4115d… (all of the seat's roots in one cut). By AI agents, Wed Nov 11 2026. No macro, syntax, notation, axiom, sorry.
-/
import Derived.Test.YtifehfcgmodmaaaDoorChecked
import GoSem.Claim
import GoSem.ClaimJoined
import GoSem.ClaimMapViews
import Derived.JoinedTies
import Derived.KernelRfl
namespace Go.Proofs.YtifehfcgmodmaaaDoor
/- THE CELL 'sum', in the pinned program and in every row, IS THE sha256 OF THE DUMP (.gsa) THAT YtifehfcgmodmaaaDoorProg.lean LOADS. Nothing in Lean hashes anything: it is a label: what it is worth is what the hold of that sum in a sandbox is worth. -/
noncomputable def Tryd.pinned : Pinned := { name := "ytifehfcgmodmaaadoor", sum := "1d05bf53c0a4115d0236e234576b721dc3de9fe3ab9e7b0e724d351653ff3f8d", checked := Tryd.checked }
namespace Rows
def none {H : Type} : Left H := { results := [], args := [] }

/- WHAT THE LISTED PACKAGE-LEVEL VARIABLES READ AS WHEN THE CALL BEGINS. Each datum BY PROGRAM (the guide's laid-datum.mjs) off the statement by which the dump's own 'gosem.cut.vars' lays the variable. In a bare row this is a premise. The card (YtifehfcgmodmaaaDoorCards.lean) ties it to the program's text. -/
def laid_coterie_coterieref02_k {H : Type} : DataW H := .agg [.lit (.int .u32 1116352408), .lit (.int .u32 1899447441), .lit (.int .u32 3049323471), .lit (.int .u32 3921009573), .lit (.int .u32 961987163), .lit (.int .u32 1508970993), .lit (.int .u32 2453635748), .lit (.int .u32 2870763221), .lit (.int .u32 3624381080), .lit (.int .u32 310598401), .lit (.int .u32 607225278), .lit (.int .u32 1426881987), .lit (.int .u32 1925078388), .lit (.int .u32 2162078206), .lit (.int .u32 2614888103), .lit (.int .u32 3248222580), .lit (.int .u32 3835390401), .lit (.int .u32 4022224774), .lit (.int .u32 264347078), .lit (.int .u32 604807628), .lit (.int .u32 770255983), .lit (.int .u32 1249150122), .lit (.int .u32 1555081692), .lit (.int .u32 1996064986), .lit (.int .u32 2554220882), .lit (.int .u32 2821834349), .lit (.int .u32 2952996808), .lit (.int .u32 3210313671), .lit (.int .u32 3336571891), .lit (.int .u32 3584528711), .lit (.int .u32 113926993), .lit (.int .u32 338241895), .lit (.int .u32 666307205), .lit (.int .u32 773529912), .lit (.int .u32 1294757372), .lit (.int .u32 1396182291), .lit (.int .u32 1695183700), .lit (.int .u32 1986661051), .lit (.int .u32 2177026350), .lit (.int .u32 2456956037), .lit (.int .u32 2730485921), .lit (.int .u32 2820302411), .lit (.int .u32 3259730800), .lit (.int .u32 3345764771), .lit (.int .u32 3516065817), .lit (.int .u32 3600352804), .lit (.int .u32 4094571909), .lit (.int .u32 275423344), .lit (.int .u32 430227734), .lit (.int .u32 506948616), .lit (.int .u32 659060556), .lit (.int .u32 883997877), .lit (.int .u32 958139571), .lit (.int .u32 1322822218), .lit (.int .u32 1537002063), .lit (.int .u32 1747873779), .lit (.int .u32 1955562222), .lit (.int .u32 2024104815), .lit (.int .u32 2227730452), .lit (.int .u32 2361852424), .lit (.int .u32 2428436474), .lit (.int .u32 2756734187), .lit (.int .u32 3204031479), .lit (.int .u32 3329325298)]
def laid_coterie_sha_adds {H : Type} : DataW H := .agg [.lit (.int .u32 1116352408), .lit (.int .u32 1899447441), .lit (.int .u32 3049323471), .lit (.int .u32 3921009573), .lit (.int .u32 961987163), .lit (.int .u32 1508970993), .lit (.int .u32 2453635748), .lit (.int .u32 2870763221), .lit (.int .u32 3624381080), .lit (.int .u32 310598401), .lit (.int .u32 607225278), .lit (.int .u32 1426881987), .lit (.int .u32 1925078388), .lit (.int .u32 2162078206), .lit (.int .u32 2614888103), .lit (.int .u32 3248222580), .lit (.int .u32 3835390401), .lit (.int .u32 4022224774), .lit (.int .u32 264347078), .lit (.int .u32 604807628), .lit (.int .u32 770255983), .lit (.int .u32 1249150122), .lit (.int .u32 1555081692), .lit (.int .u32 1996064986), .lit (.int .u32 2554220882), .lit (.int .u32 2821834349), .lit (.int .u32 2952996808), .lit (.int .u32 3210313671), .lit (.int .u32 3336571891), .lit (.int .u32 3584528711), .lit (.int .u32 113926993), .lit (.int .u32 338241895), .lit (.int .u32 666307205), .lit (.int .u32 773529912), .lit (.int .u32 1294757372), .lit (.int .u32 1396182291), .lit (.int .u32 1695183700), .lit (.int .u32 1986661051), .lit (.int .u32 2177026350), .lit (.int .u32 2456956037), .lit (.int .u32 2730485921), .lit (.int .u32 2820302411), .lit (.int .u32 3259730800), .lit (.int .u32 3345764771), .lit (.int .u32 3516065817), .lit (.int .u32 3600352804), .lit (.int .u32 4094571909), .lit (.int .u32 275423344), .lit (.int .u32 430227734), .lit (.int .u32 506948616), .lit (.int .u32 659060556), .lit (.int .u32 883997877), .lit (.int .u32 958139571), .lit (.int .u32 1322822218), .lit (.int .u32 1537002063), .lit (.int .u32 1747873779), .lit (.int .u32 1955562222), .lit (.int .u32 2024104815), .lit (.int .u32 2227730452), .lit (.int .u32 2361852424), .lit (.int .u32 2428436474), .lit (.int .u32 2756734187), .lit (.int .u32 3204031479), .lit (.int .u32 3329325298)]
def laid_bytes_ErrTooLarge {H : Type} : DataW H := .iface "*errors.errorString" (.ptr (.agg [.lit (.string [98, 121, 116, 101, 115, 46, 66, 117, 102, 102, 101, 114, 58, 32, 116, 111, 111, 32, 108, 97, 114, 103, 101])]))

/-- 'coterielaw02.ShaSums': WHATEVER THE INPUT: true; the input reads as it did. -/
def shaSumsSpec : ChangeSpec := { name := "shaSums", fn := fun _ => fun
  | [d] => { results := [.lit (.bool true)], args := [d] }
  | _ => none }
def shaSumsRow : OpenClaim := { program := "ytifehfcgmodmaaadoor", sum := "1d05bf53c0a4115d0236e234576b721dc3de9fe3ab9e7b0e724d351653ff3f8d", func := "coterie/coterielaw02.ShaSums", spec := "shaSums", named := ["coterie/sha.adds", "coterie/coterieref02.k"], apart := false, laid := [("coterie/coterieref02.k", laid_coterie_coterieref02_k), ("coterie/sha.adds", laid_coterie_sha_adds)] }
def ShaSumsSaid : Prop := shaSumsRow.holds Tryd.pinned (OpenSpec.ofChange shaSumsSpec)

/-- ITS FALSE NEIGHBOUR: 'it returns false'. Refute it at one input. -/
def shaSumsWrong : ChangeSpec := { name := "shaSums", fn := fun _ => fun
  | [d] => { results := [.lit (.bool false)], args := [d] }
  | _ => none }
def ShaSumsWrongFalsely : Prop := shaSumsRow.holds Tryd.pinned (OpenSpec.ofChange shaSumsWrong)

/-- 'coterielaw03.MacKeys': WHATEVER THE INPUT: true; the input reads as it did. -/
def macKeysSpec : ChangeSpec := { name := "macKeys", fn := fun _ => fun
  | [d1, d2, d3, d4] => { results := [.lit (.bool true)], args := [d1, d2, d3, d4] }
  | _ => none }
def macKeysRow : OpenClaim := { program := "ytifehfcgmodmaaadoor", sum := "1d05bf53c0a4115d0236e234576b721dc3de9fe3ab9e7b0e724d351653ff3f8d", func := "coterie/coterielaw03.MacKeys", spec := "macKeys", named := ["coterie/sha.adds"], apart := false, laid := [("coterie/sha.adds", laid_coterie_sha_adds)] }
def MacKeysSaid : Prop := macKeysRow.holds Tryd.pinned (OpenSpec.ofChange macKeysSpec)

/-- ITS FALSE NEIGHBOUR: 'it returns false'. Refute it at one input. -/
def macKeysWrong : ChangeSpec := { name := "macKeys", fn := fun _ => fun
  | [d1, d2, d3, d4] => { results := [.lit (.bool false)], args := [d1, d2, d3, d4] }
  | _ => none }
def MacKeysWrongFalsely : Prop := macKeysRow.holds Tryd.pinned (OpenSpec.ofChange macKeysWrong)

/-- 'coterielaw02.ShaRest': WHATEVER THE INPUT: true; the input reads as it did. -/
def shaRestSpec : ChangeSpec := { name := "shaRest", fn := fun _ => fun
  | [d1, d2] => { results := [.lit (.bool true)], args := [d1, d2] }
  | _ => none }
def shaRestRow : OpenClaim := { program := "ytifehfcgmodmaaadoor", sum := "1d05bf53c0a4115d0236e234576b721dc3de9fe3ab9e7b0e724d351653ff3f8d", func := "coterie/coterielaw02.ShaRest", spec := "shaRest", named := ["coterie/sha.adds"], apart := false, laid := [("coterie/sha.adds", laid_coterie_sha_adds)] }
def ShaRestSaid : Prop := shaRestRow.holds Tryd.pinned (OpenSpec.ofChange shaRestSpec)

/-- ITS FALSE NEIGHBOUR: 'it returns false'. Refute it at one input. -/
def shaRestWrong : ChangeSpec := { name := "shaRest", fn := fun _ => fun
  | [d1, d2] => { results := [.lit (.bool false)], args := [d1, d2] }
  | _ => none }
def ShaRestWrongFalsely : Prop := shaRestRow.holds Tryd.pinned (OpenSpec.ofChange shaRestWrong)

/-- 'coterielaw03.MacEqual': WHATEVER THE INPUT: true; the input reads as it did. -/
def macEqualSpec : ChangeSpec := { name := "macEqual", fn := fun _ => fun
  | [d1, d2, d3, d4] => { results := [.lit (.bool true)], args := [d1, d2, d3, d4] }
  | _ => none }
def macEqualRow : OpenClaim := { program := "ytifehfcgmodmaaadoor", sum := "1d05bf53c0a4115d0236e234576b721dc3de9fe3ab9e7b0e724d351653ff3f8d", func := "coterie/coterielaw03.MacEqual", spec := "macEqual", named := ["coterie/sha.adds"], apart := false, laid := [("coterie/sha.adds", laid_coterie_sha_adds)] }
def MacEqualSaid : Prop := macEqualRow.holds Tryd.pinned (OpenSpec.ofChange macEqualSpec)

/-- ITS FALSE NEIGHBOUR: 'it returns false'. Refute it at one input. -/
def macEqualWrong : ChangeSpec := { name := "macEqual", fn := fun _ => fun
  | [d1, d2, d3, d4] => { results := [.lit (.bool false)], args := [d1, d2, d3, d4] }
  | _ => none }
def MacEqualWrongFalsely : Prop := macEqualRow.holds Tryd.pinned (OpenSpec.ofChange macEqualWrong)

/-- 'coterielaw03.MacSums': WHATEVER THE INPUT: true; the input reads as it did. -/
def macSumsSpec : ChangeSpec := { name := "macSums", fn := fun _ => fun
  | [d1, d2, d3] => { results := [.lit (.bool true)], args := [d1, d2, d3] }
  | _ => none }
def macSumsRow : OpenClaim := { program := "ytifehfcgmodmaaadoor", sum := "1d05bf53c0a4115d0236e234576b721dc3de9fe3ab9e7b0e724d351653ff3f8d", func := "coterie/coterielaw03.MacSums", spec := "macSums", named := ["coterie/sha.adds", "coterie/coterieref02.k"], apart := false, laid := [("coterie/coterieref02.k", laid_coterie_coterieref02_k), ("coterie/sha.adds", laid_coterie_sha_adds)] }
def MacSumsSaid : Prop := macSumsRow.holds Tryd.pinned (OpenSpec.ofChange macSumsSpec)

/-- ITS FALSE NEIGHBOUR: 'it returns false'. Refute it at one input. -/
def macSumsWrong : ChangeSpec := { name := "macSums", fn := fun _ => fun
  | [d1, d2, d3] => { results := [.lit (.bool false)], args := [d1, d2, d3] }
  | _ => none }
def MacSumsWrongFalsely : Prop := macSumsRow.holds Tryd.pinned (OpenSpec.ofChange macSumsWrong)

/-- 'coterielaw02.ShaSteps': WHATEVER THE INPUT: true; the input reads as it did. -/
def shaStepsSpec : ChangeSpec := { name := "shaSteps", fn := fun _ => fun
  | [d1, d2, d3] => { results := [.lit (.bool true)], args := [d1, d2, d3] }
  | _ => none }
def shaStepsRow : OpenClaim := { program := "ytifehfcgmodmaaadoor", sum := "1d05bf53c0a4115d0236e234576b721dc3de9fe3ab9e7b0e724d351653ff3f8d", func := "coterie/coterielaw02.ShaSteps", spec := "shaSteps", named := ["coterie/sha.adds", "coterie/coterieref02.k"], apart := false, laid := [("coterie/coterieref02.k", laid_coterie_coterieref02_k), ("coterie/sha.adds", laid_coterie_sha_adds)] }
def ShaStepsSaid : Prop := shaStepsRow.holds Tryd.pinned (OpenSpec.ofChange shaStepsSpec)

/-- ITS FALSE NEIGHBOUR: 'it returns false'. Refute it at one input. -/
def shaStepsWrong : ChangeSpec := { name := "shaSteps", fn := fun _ => fun
  | [d1, d2, d3] => { results := [.lit (.bool false)], args := [d1, d2, d3] }
  | _ => none }
def ShaStepsWrongFalsely : Prop := shaStepsRow.holds Tryd.pinned (OpenSpec.ofChange shaStepsWrong)

/-- 'coterielaw02.ShaParts': WHATEVER THE INPUT: true; the input reads as it did. -/
def shaPartsSpec : ChangeSpec := { name := "shaParts", fn := fun _ => fun
  | [d1, d2] => { results := [.lit (.bool true)], args := [d1, d2] }
  | _ => none }
def shaPartsRow : OpenClaim := { program := "ytifehfcgmodmaaadoor", sum := "1d05bf53c0a4115d0236e234576b721dc3de9fe3ab9e7b0e724d351653ff3f8d", func := "coterie/coterielaw02.ShaParts", spec := "shaParts", named := ["coterie/sha.adds"], apart := false, laid := [("coterie/sha.adds", laid_coterie_sha_adds)] }
def ShaPartsSaid : Prop := shaPartsRow.holds Tryd.pinned (OpenSpec.ofChange shaPartsSpec)

/-- ITS FALSE NEIGHBOUR: 'it returns false'. Refute it at one input. -/
def shaPartsWrong : ChangeSpec := { name := "shaParts", fn := fun _ => fun
  | [d1, d2] => { results := [.lit (.bool false)], args := [d1, d2] }
  | _ => none }
def ShaPartsWrongFalsely : Prop := shaPartsRow.holds Tryd.pinned (OpenSpec.ofChange shaPartsWrong)

/-- 'coterielaw02.ShaLong': WHATEVER THE INPUT: true; the input reads as it did. -/
def shaLongSpec : ChangeSpec := { name := "shaLong", fn := fun _ => fun
  | [d1, d2] => { results := [.lit (.bool true)], args := [d1, d2] }
  | _ => none }
def shaLongRow : OpenClaim := { program := "ytifehfcgmodmaaadoor", sum := "1d05bf53c0a4115d0236e234576b721dc3de9fe3ab9e7b0e724d351653ff3f8d", func := "coterie/coterielaw02.ShaLong", spec := "shaLong", named := ["coterie/sha.adds"], apart := false, laid := [("coterie/sha.adds", laid_coterie_sha_adds)] }
def ShaLongSaid : Prop := shaLongRow.holds Tryd.pinned (OpenSpec.ofChange shaLongSpec)

/-- ITS FALSE NEIGHBOUR: 'it returns false'. Refute it at one input. -/
def shaLongWrong : ChangeSpec := { name := "shaLong", fn := fun _ => fun
  | [d1, d2] => { results := [.lit (.bool false)], args := [d1, d2] }
  | _ => none }
def ShaLongWrongFalsely : Prop := shaLongRow.holds Tryd.pinned (OpenSpec.ofChange shaLongWrong)

/-- 'coterielaw03.MacPrefix': WHATEVER THE INPUT: true; the input reads as it did. -/
def macPrefixSpec : ChangeSpec := { name := "macPrefix", fn := fun _ => fun
  | [d1, d2, d3, d4] => { results := [.lit (.bool true)], args := [d1, d2, d3, d4] }
  | _ => none }
def macPrefixRow : OpenClaim := { program := "ytifehfcgmodmaaadoor", sum := "1d05bf53c0a4115d0236e234576b721dc3de9fe3ab9e7b0e724d351653ff3f8d", func := "coterie/coterielaw03.MacPrefix", spec := "macPrefix", unfollowed := true, recurses := true, named := ["coterie/sha.adds"], apart := false, laid := [("coterie/sha.adds", laid_coterie_sha_adds)] }
def MacPrefixSaid : Prop := macPrefixRow.holds Tryd.pinned (OpenSpec.ofChange macPrefixSpec)

/-- ITS FALSE NEIGHBOUR: 'it returns false'. Refute it at one input. -/
def macPrefixWrong : ChangeSpec := { name := "macPrefix", fn := fun _ => fun
  | [d1, d2, d3, d4] => { results := [.lit (.bool false)], args := [d1, d2, d3, d4] }
  | _ => none }
def MacPrefixWrongFalsely : Prop := macPrefixRow.holds Tryd.pinned (OpenSpec.ofChange macPrefixWrong)

/-- 'coterielaw01.WireWrites': WHATEVER THE INPUT: true; the input reads as it did. -/
def wireWritesSpec : ChangeSpec := { name := "wireWrites", fn := fun _ => fun
  | [d1, d2, d3, d4] => { results := [.lit (.bool true)], args := [d1, d2, d3, d4] }
  | _ => none }
def wireWritesRow : OpenClaim := { program := "ytifehfcgmodmaaadoor", sum := "1d05bf53c0a4115d0236e234576b721dc3de9fe3ab9e7b0e724d351653ff3f8d", func := "coterie/coterielaw01.WireWrites", spec := "wireWrites", unfollowed := true, recurses := true, named := ["bytes.ErrTooLarge"], apart := false, laid := [("bytes.ErrTooLarge", laid_bytes_ErrTooLarge)] }
def WireWritesSaid : Prop := wireWritesRow.holds Tryd.pinned (OpenSpec.ofChange wireWritesSpec)

/-- ITS FALSE NEIGHBOUR: 'it returns false'. Refute it at one input. -/
def wireWritesWrong : ChangeSpec := { name := "wireWrites", fn := fun _ => fun
  | [d1, d2, d3, d4] => { results := [.lit (.bool false)], args := [d1, d2, d3, d4] }
  | _ => none }
def WireWritesWrongFalsely : Prop := wireWritesRow.holds Tryd.pinned (OpenSpec.ofChange wireWritesWrong)

/-- 'coterielaw01.WireOrder': WHATEVER THE INPUT: true; the input reads as it did. -/
def wireOrderSpec : ChangeSpec := { name := "wireOrder", fn := fun _ => fun
  | [d1, d2, d3] => { results := [.lit (.bool true)], args := [d1, d2, d3] }
  | _ => none }
def wireOrderRow : OpenClaim := { program := "ytifehfcgmodmaaadoor", sum := "1d05bf53c0a4115d0236e234576b721dc3de9fe3ab9e7b0e724d351653ff3f8d", func := "coterie/coterielaw01.WireOrder", spec := "wireOrder", unfollowed := true, recurses := true, named := ["bytes.ErrTooLarge"], apart := false, laid := [("bytes.ErrTooLarge", laid_bytes_ErrTooLarge)] }
def WireOrderSaid : Prop := wireOrderRow.holds Tryd.pinned (OpenSpec.ofChange wireOrderSpec)

/-- ITS FALSE NEIGHBOUR: 'it returns false'. Refute it at one input. -/
def wireOrderWrong : ChangeSpec := { name := "wireOrder", fn := fun _ => fun
  | [d1, d2, d3] => { results := [.lit (.bool false)], args := [d1, d2, d3] }
  | _ => none }
def WireOrderWrongFalsely : Prop := wireOrderRow.holds Tryd.pinned (OpenSpec.ofChange wireOrderWrong)

/-- 'coterielaw01.WireStands': WHATEVER THE INPUT: true; the input reads as it did. -/
def wireStandsSpec : ChangeSpec := { name := "wireStands", fn := fun _ => fun
  | [d1, d2, d3] => { results := [.lit (.bool true)], args := [d1, d2, d3] }
  | _ => none }
def wireStandsRow : OpenClaim := { program := "ytifehfcgmodmaaadoor", sum := "1d05bf53c0a4115d0236e234576b721dc3de9fe3ab9e7b0e724d351653ff3f8d", func := "coterie/coterielaw01.WireStands", spec := "wireStands", unfollowed := true, recurses := true, named := ["bytes.ErrTooLarge"], apart := false, laid := [("bytes.ErrTooLarge", laid_bytes_ErrTooLarge)] }
def WireStandsSaid : Prop := wireStandsRow.holds Tryd.pinned (OpenSpec.ofChange wireStandsSpec)

/-- ITS FALSE NEIGHBOUR: 'it returns false'. Refute it at one input. -/
def wireStandsWrong : ChangeSpec := { name := "wireStands", fn := fun _ => fun
  | [d1, d2, d3] => { results := [.lit (.bool false)], args := [d1, d2, d3] }
  | _ => none }
def WireStandsWrongFalsely : Prop := wireStandsRow.holds Tryd.pinned (OpenSpec.ofChange wireStandsWrong)

/-- 'coterielaw01.WireSplits': WHATEVER THE INPUT: true; the input reads as it did. -/
def wireSplitsSpec : ChangeSpec := { name := "wireSplits", fn := fun _ => fun
  | [d1, d2, d3, d4] => { results := [.lit (.bool true)], args := [d1, d2, d3, d4] }
  | _ => none }
def wireSplitsRow : OpenClaim := { program := "ytifehfcgmodmaaadoor", sum := "1d05bf53c0a4115d0236e234576b721dc3de9fe3ab9e7b0e724d351653ff3f8d", func := "coterie/coterielaw01.WireSplits", spec := "wireSplits", unfollowed := true, recurses := true, named := ["bytes.ErrTooLarge"], apart := false, laid := [("bytes.ErrTooLarge", laid_bytes_ErrTooLarge)] }
def WireSplitsSaid : Prop := wireSplitsRow.holds Tryd.pinned (OpenSpec.ofChange wireSplitsSpec)

/-- ITS FALSE NEIGHBOUR: 'it returns false'. Refute it at one input. -/
def wireSplitsWrong : ChangeSpec := { name := "wireSplits", fn := fun _ => fun
  | [d1, d2, d3, d4] => { results := [.lit (.bool false)], args := [d1, d2, d3, d4] }
  | _ => none }
def WireSplitsWrongFalsely : Prop := wireSplitsRow.holds Tryd.pinned (OpenSpec.ofChange wireSplitsWrong)

/-- 'coterielaw01.WireReads': WHATEVER THE INPUT: true; the input reads as it did. -/
def wireReadsSpec : ChangeSpec := { name := "wireReads", fn := fun _ => fun
  | [d1, d2, d3, d4] => { results := [.lit (.bool true)], args := [d1, d2, d3, d4] }
  | _ => none }
def wireReadsRow : OpenClaim := { program := "ytifehfcgmodmaaadoor", sum := "1d05bf53c0a4115d0236e234576b721dc3de9fe3ab9e7b0e724d351653ff3f8d", func := "coterie/coterielaw01.WireReads", spec := "wireReads", unfollowed := true, recurses := true, named := ["bytes.ErrTooLarge"], apart := false, laid := [("bytes.ErrTooLarge", laid_bytes_ErrTooLarge)] }
def WireReadsSaid : Prop := wireReadsRow.holds Tryd.pinned (OpenSpec.ofChange wireReadsSpec)

/-- ITS FALSE NEIGHBOUR: 'it returns false'. Refute it at one input. -/
def wireReadsWrong : ChangeSpec := { name := "wireReads", fn := fun _ => fun
  | [d1, d2, d3, d4] => { results := [.lit (.bool false)], args := [d1, d2, d3, d4] }
  | _ => none }
def WireReadsWrongFalsely : Prop := wireReadsRow.holds Tryd.pinned (OpenSpec.ofChange wireReadsWrong)

/-- 'coterielaw01.WireBack': WHATEVER THE INPUT: true; the input reads as it did. -/
def wireBackSpec : ChangeSpec := { name := "wireBack", fn := fun _ => fun
  | [d1, d2, d3, d4, d5] => { results := [.lit (.bool true)], args := [d1, d2, d3, d4, d5] }
  | _ => none }
def wireBackRow : OpenClaim := { program := "ytifehfcgmodmaaadoor", sum := "1d05bf53c0a4115d0236e234576b721dc3de9fe3ab9e7b0e724d351653ff3f8d", func := "coterie/coterielaw01.WireBack", spec := "wireBack", unfollowed := true, recurses := true, named := ["bytes.ErrTooLarge"], apart := false, laid := [("bytes.ErrTooLarge", laid_bytes_ErrTooLarge)] }
def WireBackSaid : Prop := wireBackRow.holds Tryd.pinned (OpenSpec.ofChange wireBackSpec)

/-- ITS FALSE NEIGHBOUR: 'it returns false'. Refute it at one input. -/
def wireBackWrong : ChangeSpec := { name := "wireBack", fn := fun _ => fun
  | [d1, d2, d3, d4, d5] => { results := [.lit (.bool false)], args := [d1, d2, d3, d4, d5] }
  | _ => none }
def WireBackWrongFalsely : Prop := wireBackRow.holds Tryd.pinned (OpenSpec.ofChange wireBackWrong)

/-- 'coterielaw03.MacExpands': WHATEVER THE INPUT: true; the input reads as it did. -/
def macExpandsSpec : ChangeSpec := { name := "macExpands", fn := fun _ => fun
  | [d1, d2, d3, d4, d5] => { results := [.lit (.bool true)], args := [d1, d2, d3, d4, d5] }
  | _ => none }
def macExpandsRow : OpenClaim := { program := "ytifehfcgmodmaaadoor", sum := "1d05bf53c0a4115d0236e234576b721dc3de9fe3ab9e7b0e724d351653ff3f8d", func := "coterie/coterielaw03.MacExpands", spec := "macExpands", unfollowed := true, recurses := true, named := ["coterie/sha.adds", "coterie/coterieref02.k", "bytes.ErrTooLarge"], apart := false, laid := [("coterie/coterieref02.k", laid_coterie_coterieref02_k), ("bytes.ErrTooLarge", laid_bytes_ErrTooLarge), ("coterie/sha.adds", laid_coterie_sha_adds)] }
def MacExpandsSaid : Prop := macExpandsRow.holds Tryd.pinned (OpenSpec.ofChange macExpandsSpec)

/-- ITS FALSE NEIGHBOUR: 'it returns false'. Refute it at one input. -/
def macExpandsWrong : ChangeSpec := { name := "macExpands", fn := fun _ => fun
  | [d1, d2, d3, d4, d5] => { results := [.lit (.bool false)], args := [d1, d2, d3, d4, d5] }
  | _ => none }
def MacExpandsWrongFalsely : Prop := macExpandsRow.holds Tryd.pinned (OpenSpec.ofChange macExpandsWrong)

/- THE SECOND FORM. 'bulk': how many values and letters a reading holds, each counted each time it is reached (what is shared counts as often as it is met; a slice's spare places count too). A statement '..UptoSaid' is the law's where the arguments, and the package variables that the reading takes, are together of bulk at most 1048576: NARROWER than '..Said'. Prove '..Said' where nothing that the law and all that it calls make is longer than what came in: it says more and counts as full. Else prove '..UptoSaid'. A law counts once. -/
mutual
def uptoBulk {H : Type} : DataW H → Nat
  | .lit (.string bytes) => bytes.length + 1
  | .lit _ => 1
  | .nil => 1
  | .ptr d => uptoBulk d + 1
  | .slice elems spare => uptoBulkAll elems + uptoBulkAll spare + 1
  | .agg parts => uptoBulkAll parts + 1
  | .iface _ d => uptoBulk d + 1
  | .map entries => uptoBulkEntries entries + 1
  | .held _ => 1
def uptoBulkAll {H : Type} : List (DataW H) → Nat
  | [] => 0
  | d :: r => uptoBulk d + uptoBulkAll r
def uptoBulkEntries {H : Type} : List (Lit × DataW H) → Nat
  | [] => 0
  | x :: r => uptoBulkEntry x + uptoBulkEntries r
def uptoBulkEntry {H : Type} : Lit × DataW H → Nat
  | (.string bytes, d) => bytes.length + uptoBulk d + 1
  | (_, d) => uptoBulk d + 1
 end
def uptoSmall : (H : Type) → List (DataW H) → Bool := fun _ ds => decide (uptoBulkAll ds ≤ 1048576)
def OpenSpec.upto (s : _root_.Go.ChangeSpec) : _root_.Go.OpenSpec := { _root_.Go.OpenSpec.ofChange s with cond := some uptoSmall }

/-- 'coterielaw02.ShaSums', WHERE WHAT IT READS IS OF BULK AT MOST 1048576: true; the input reads as it did. -/
def shaSumsUptoRow : OpenClaim := { program := "ytifehfcgmodmaaadoor", sum := "1d05bf53c0a4115d0236e234576b721dc3de9fe3ab9e7b0e724d351653ff3f8d", func := "coterie/coterielaw02.ShaSums", spec := "shaSums", named := ["coterie/sha.adds", "coterie/coterieref02.k"], apart := false, laid := [("coterie/coterieref02.k", laid_coterie_coterieref02_k), ("coterie/sha.adds", laid_coterie_sha_adds)], narrowed := true }
def ShaSumsUptoSaid : Prop := shaSumsUptoRow.holds Tryd.pinned (OpenSpec.upto shaSumsSpec)

/-- 'coterielaw03.MacKeys', WHERE WHAT IT READS IS OF BULK AT MOST 1048576: true; the input reads as it did. -/
def macKeysUptoRow : OpenClaim := { program := "ytifehfcgmodmaaadoor", sum := "1d05bf53c0a4115d0236e234576b721dc3de9fe3ab9e7b0e724d351653ff3f8d", func := "coterie/coterielaw03.MacKeys", spec := "macKeys", named := ["coterie/sha.adds"], apart := false, laid := [("coterie/sha.adds", laid_coterie_sha_adds)], narrowed := true }
def MacKeysUptoSaid : Prop := macKeysUptoRow.holds Tryd.pinned (OpenSpec.upto macKeysSpec)

/-- 'coterielaw02.ShaRest', WHERE WHAT IT READS IS OF BULK AT MOST 1048576: true; the input reads as it did. -/
def shaRestUptoRow : OpenClaim := { program := "ytifehfcgmodmaaadoor", sum := "1d05bf53c0a4115d0236e234576b721dc3de9fe3ab9e7b0e724d351653ff3f8d", func := "coterie/coterielaw02.ShaRest", spec := "shaRest", named := ["coterie/sha.adds"], apart := false, laid := [("coterie/sha.adds", laid_coterie_sha_adds)], narrowed := true }
def ShaRestUptoSaid : Prop := shaRestUptoRow.holds Tryd.pinned (OpenSpec.upto shaRestSpec)

/-- 'coterielaw03.MacEqual', WHERE WHAT IT READS IS OF BULK AT MOST 1048576: true; the input reads as it did. -/
def macEqualUptoRow : OpenClaim := { program := "ytifehfcgmodmaaadoor", sum := "1d05bf53c0a4115d0236e234576b721dc3de9fe3ab9e7b0e724d351653ff3f8d", func := "coterie/coterielaw03.MacEqual", spec := "macEqual", named := ["coterie/sha.adds"], apart := false, laid := [("coterie/sha.adds", laid_coterie_sha_adds)], narrowed := true }
def MacEqualUptoSaid : Prop := macEqualUptoRow.holds Tryd.pinned (OpenSpec.upto macEqualSpec)

/-- 'coterielaw03.MacSums', WHERE WHAT IT READS IS OF BULK AT MOST 1048576: true; the input reads as it did. -/
def macSumsUptoRow : OpenClaim := { program := "ytifehfcgmodmaaadoor", sum := "1d05bf53c0a4115d0236e234576b721dc3de9fe3ab9e7b0e724d351653ff3f8d", func := "coterie/coterielaw03.MacSums", spec := "macSums", named := ["coterie/sha.adds", "coterie/coterieref02.k"], apart := false, laid := [("coterie/coterieref02.k", laid_coterie_coterieref02_k), ("coterie/sha.adds", laid_coterie_sha_adds)], narrowed := true }
def MacSumsUptoSaid : Prop := macSumsUptoRow.holds Tryd.pinned (OpenSpec.upto macSumsSpec)

/-- 'coterielaw02.ShaSteps', WHERE WHAT IT READS IS OF BULK AT MOST 1048576: true; the input reads as it did. -/
def shaStepsUptoRow : OpenClaim := { program := "ytifehfcgmodmaaadoor", sum := "1d05bf53c0a4115d0236e234576b721dc3de9fe3ab9e7b0e724d351653ff3f8d", func := "coterie/coterielaw02.ShaSteps", spec := "shaSteps", named := ["coterie/sha.adds", "coterie/coterieref02.k"], apart := false, laid := [("coterie/coterieref02.k", laid_coterie_coterieref02_k), ("coterie/sha.adds", laid_coterie_sha_adds)], narrowed := true }
def ShaStepsUptoSaid : Prop := shaStepsUptoRow.holds Tryd.pinned (OpenSpec.upto shaStepsSpec)

/-- 'coterielaw02.ShaParts', WHERE WHAT IT READS IS OF BULK AT MOST 1048576: true; the input reads as it did. -/
def shaPartsUptoRow : OpenClaim := { program := "ytifehfcgmodmaaadoor", sum := "1d05bf53c0a4115d0236e234576b721dc3de9fe3ab9e7b0e724d351653ff3f8d", func := "coterie/coterielaw02.ShaParts", spec := "shaParts", named := ["coterie/sha.adds"], apart := false, laid := [("coterie/sha.adds", laid_coterie_sha_adds)], narrowed := true }
def ShaPartsUptoSaid : Prop := shaPartsUptoRow.holds Tryd.pinned (OpenSpec.upto shaPartsSpec)

/-- 'coterielaw02.ShaLong', WHERE WHAT IT READS IS OF BULK AT MOST 1048576: true; the input reads as it did. -/
def shaLongUptoRow : OpenClaim := { program := "ytifehfcgmodmaaadoor", sum := "1d05bf53c0a4115d0236e234576b721dc3de9fe3ab9e7b0e724d351653ff3f8d", func := "coterie/coterielaw02.ShaLong", spec := "shaLong", named := ["coterie/sha.adds"], apart := false, laid := [("coterie/sha.adds", laid_coterie_sha_adds)], narrowed := true }
def ShaLongUptoSaid : Prop := shaLongUptoRow.holds Tryd.pinned (OpenSpec.upto shaLongSpec)

/-- 'coterielaw03.MacPrefix', WHERE WHAT IT READS IS OF BULK AT MOST 1048576: true; the input reads as it did. -/
def macPrefixUptoRow : OpenClaim := { program := "ytifehfcgmodmaaadoor", sum := "1d05bf53c0a4115d0236e234576b721dc3de9fe3ab9e7b0e724d351653ff3f8d", func := "coterie/coterielaw03.MacPrefix", spec := "macPrefix", unfollowed := true, recurses := true, named := ["coterie/sha.adds"], apart := false, laid := [("coterie/sha.adds", laid_coterie_sha_adds)], narrowed := true }
def MacPrefixUptoSaid : Prop := macPrefixUptoRow.holds Tryd.pinned (OpenSpec.upto macPrefixSpec)

/-- 'coterielaw01.WireWrites', WHERE WHAT IT READS IS OF BULK AT MOST 1048576: true; the input reads as it did. -/
def wireWritesUptoRow : OpenClaim := { program := "ytifehfcgmodmaaadoor", sum := "1d05bf53c0a4115d0236e234576b721dc3de9fe3ab9e7b0e724d351653ff3f8d", func := "coterie/coterielaw01.WireWrites", spec := "wireWrites", unfollowed := true, recurses := true, named := ["bytes.ErrTooLarge"], apart := false, laid := [("bytes.ErrTooLarge", laid_bytes_ErrTooLarge)], narrowed := true }
def WireWritesUptoSaid : Prop := wireWritesUptoRow.holds Tryd.pinned (OpenSpec.upto wireWritesSpec)

/-- 'coterielaw01.WireOrder', WHERE WHAT IT READS IS OF BULK AT MOST 1048576: true; the input reads as it did. -/
def wireOrderUptoRow : OpenClaim := { program := "ytifehfcgmodmaaadoor", sum := "1d05bf53c0a4115d0236e234576b721dc3de9fe3ab9e7b0e724d351653ff3f8d", func := "coterie/coterielaw01.WireOrder", spec := "wireOrder", unfollowed := true, recurses := true, named := ["bytes.ErrTooLarge"], apart := false, laid := [("bytes.ErrTooLarge", laid_bytes_ErrTooLarge)], narrowed := true }
def WireOrderUptoSaid : Prop := wireOrderUptoRow.holds Tryd.pinned (OpenSpec.upto wireOrderSpec)

/-- 'coterielaw01.WireStands', WHERE WHAT IT READS IS OF BULK AT MOST 1048576: true; the input reads as it did. -/
def wireStandsUptoRow : OpenClaim := { program := "ytifehfcgmodmaaadoor", sum := "1d05bf53c0a4115d0236e234576b721dc3de9fe3ab9e7b0e724d351653ff3f8d", func := "coterie/coterielaw01.WireStands", spec := "wireStands", unfollowed := true, recurses := true, named := ["bytes.ErrTooLarge"], apart := false, laid := [("bytes.ErrTooLarge", laid_bytes_ErrTooLarge)], narrowed := true }
def WireStandsUptoSaid : Prop := wireStandsUptoRow.holds Tryd.pinned (OpenSpec.upto wireStandsSpec)

/-- 'coterielaw01.WireSplits', WHERE WHAT IT READS IS OF BULK AT MOST 1048576: true; the input reads as it did. -/
def wireSplitsUptoRow : OpenClaim := { program := "ytifehfcgmodmaaadoor", sum := "1d05bf53c0a4115d0236e234576b721dc3de9fe3ab9e7b0e724d351653ff3f8d", func := "coterie/coterielaw01.WireSplits", spec := "wireSplits", unfollowed := true, recurses := true, named := ["bytes.ErrTooLarge"], apart := false, laid := [("bytes.ErrTooLarge", laid_bytes_ErrTooLarge)], narrowed := true }
def WireSplitsUptoSaid : Prop := wireSplitsUptoRow.holds Tryd.pinned (OpenSpec.upto wireSplitsSpec)

/-- 'coterielaw01.WireReads', WHERE WHAT IT READS IS OF BULK AT MOST 1048576: true; the input reads as it did. -/
def wireReadsUptoRow : OpenClaim := { program := "ytifehfcgmodmaaadoor", sum := "1d05bf53c0a4115d0236e234576b721dc3de9fe3ab9e7b0e724d351653ff3f8d", func := "coterie/coterielaw01.WireReads", spec := "wireReads", unfollowed := true, recurses := true, named := ["bytes.ErrTooLarge"], apart := false, laid := [("bytes.ErrTooLarge", laid_bytes_ErrTooLarge)], narrowed := true }
def WireReadsUptoSaid : Prop := wireReadsUptoRow.holds Tryd.pinned (OpenSpec.upto wireReadsSpec)

/-- 'coterielaw01.WireBack', WHERE WHAT IT READS IS OF BULK AT MOST 1048576: true; the input reads as it did. -/
def wireBackUptoRow : OpenClaim := { program := "ytifehfcgmodmaaadoor", sum := "1d05bf53c0a4115d0236e234576b721dc3de9fe3ab9e7b0e724d351653ff3f8d", func := "coterie/coterielaw01.WireBack", spec := "wireBack", unfollowed := true, recurses := true, named := ["bytes.ErrTooLarge"], apart := false, laid := [("bytes.ErrTooLarge", laid_bytes_ErrTooLarge)], narrowed := true }
def WireBackUptoSaid : Prop := wireBackUptoRow.holds Tryd.pinned (OpenSpec.upto wireBackSpec)

/-- 'coterielaw03.MacExpands', WHERE WHAT IT READS IS OF BULK AT MOST 1048576: true; the input reads as it did. -/
def macExpandsUptoRow : OpenClaim := { program := "ytifehfcgmodmaaadoor", sum := "1d05bf53c0a4115d0236e234576b721dc3de9fe3ab9e7b0e724d351653ff3f8d", func := "coterie/coterielaw03.MacExpands", spec := "macExpands", unfollowed := true, recurses := true, named := ["coterie/sha.adds", "coterie/coterieref02.k", "bytes.ErrTooLarge"], apart := false, laid := [("coterie/coterieref02.k", laid_coterie_coterieref02_k), ("bytes.ErrTooLarge", laid_bytes_ErrTooLarge), ("coterie/sha.adds", laid_coterie_sha_adds)], narrowed := true }
def MacExpandsUptoSaid : Prop := macExpandsUptoRow.holds Tryd.pinned (OpenSpec.upto macExpandsSpec)

end Rows
end Go.Proofs.YtifehfcgmodmaaaDoor
