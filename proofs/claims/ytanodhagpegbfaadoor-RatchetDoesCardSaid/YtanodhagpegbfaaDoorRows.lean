/-
  NARROWER THAN 'FOR EVERY INPUT', by the rows' own cells (each row's printed sentence says how): MacBounds: laid · MacDerives: laid · DrawEnds: laid · DrawForks: laid · DrawParts: laid · DrawDoes: laid · SchedAlike: laid · SchedChain: laid · SchedDoes: laid · SchedMeets: laid · RatchetFar: laid · RatchetLeft: laid · RatchetOnce: laid · RatchetDoes: laid · RatchetNext: laid.
  DERIVED. THE GIVEN ROWS OF THIS SEAT. 15 by the template 'for every input the law returns true; each argument reads behind the call as it read before'; 0 by the template 'total and deterministic' (their statements: YtanodhagpegbfaaDoorTotals.lean).
  GIVEN WITH THE SEED: the statements are not yours to turn. If you find one false, say at which input.
  Laid BY PROGRAM, IN A SANDBOX (cutbox-rows.mjs): the forced cells as the released guide's own fill.sh prints them over the translation 0743d727cc836abc… (all of the seat's roots in one cut). By AI agents, Wed Nov 11 2026. No macro, syntax, notation, axiom, sorry.
-/
import Derived.Test.YtanodhagpegbfaaDoorChecked
import GoSem.Claim
import GoSem.ClaimJoined
import GoSem.ClaimMapViews
import Derived.JoinedTies
import Derived.KernelRfl
namespace Go.Proofs.YtanodhagpegbfaaDoor
/- THE CELL 'sum', in the pinned program and in every row, IS THE sha256 OF THE DUMP (.gsa) THAT YtanodhagpegbfaaDoorProg.lean LOADS. Nothing in Lean hashes anything: it is a label: what it is worth is what the hold of that sum in a sandbox is worth. -/
noncomputable def Tryd.pinned : Pinned := { name := "ytanodhagpegbfaadoor", sum := "0743d727cc836abcf323f6f38b1a1fb35af6c2aa1f4bcd1828771adb68a39b02", checked := Tryd.checked }
namespace Rows
def none {H : Type} : Left H := { results := [], args := [] }

/- WHAT THE LISTED PACKAGE-LEVEL VARIABLES READ AS WHEN THE CALL BEGINS. Each datum BY PROGRAM (the guide's laid-datum.mjs) off the statement by which the dump's own 'gosem.cut.vars' lays the variable. In a bare row this is a premise. The card (YtanodhagpegbfaaDoorCards.lean) ties it to the program's text. -/
def laid_bytes_ErrTooLarge {H : Type} : DataW H := .iface "*errors.errorString" (.ptr (.agg [.lit (.string [98, 121, 116, 101, 115, 46, 66, 117, 102, 102, 101, 114, 58, 32, 116, 111, 111, 32, 108, 97, 114, 103, 101])]))
def laid_coterie_sha_adds {H : Type} : DataW H := .agg [.lit (.int .u32 1116352408), .lit (.int .u32 1899447441), .lit (.int .u32 3049323471), .lit (.int .u32 3921009573), .lit (.int .u32 961987163), .lit (.int .u32 1508970993), .lit (.int .u32 2453635748), .lit (.int .u32 2870763221), .lit (.int .u32 3624381080), .lit (.int .u32 310598401), .lit (.int .u32 607225278), .lit (.int .u32 1426881987), .lit (.int .u32 1925078388), .lit (.int .u32 2162078206), .lit (.int .u32 2614888103), .lit (.int .u32 3248222580), .lit (.int .u32 3835390401), .lit (.int .u32 4022224774), .lit (.int .u32 264347078), .lit (.int .u32 604807628), .lit (.int .u32 770255983), .lit (.int .u32 1249150122), .lit (.int .u32 1555081692), .lit (.int .u32 1996064986), .lit (.int .u32 2554220882), .lit (.int .u32 2821834349), .lit (.int .u32 2952996808), .lit (.int .u32 3210313671), .lit (.int .u32 3336571891), .lit (.int .u32 3584528711), .lit (.int .u32 113926993), .lit (.int .u32 338241895), .lit (.int .u32 666307205), .lit (.int .u32 773529912), .lit (.int .u32 1294757372), .lit (.int .u32 1396182291), .lit (.int .u32 1695183700), .lit (.int .u32 1986661051), .lit (.int .u32 2177026350), .lit (.int .u32 2456956037), .lit (.int .u32 2730485921), .lit (.int .u32 2820302411), .lit (.int .u32 3259730800), .lit (.int .u32 3345764771), .lit (.int .u32 3516065817), .lit (.int .u32 3600352804), .lit (.int .u32 4094571909), .lit (.int .u32 275423344), .lit (.int .u32 430227734), .lit (.int .u32 506948616), .lit (.int .u32 659060556), .lit (.int .u32 883997877), .lit (.int .u32 958139571), .lit (.int .u32 1322822218), .lit (.int .u32 1537002063), .lit (.int .u32 1747873779), .lit (.int .u32 1955562222), .lit (.int .u32 2024104815), .lit (.int .u32 2227730452), .lit (.int .u32 2361852424), .lit (.int .u32 2428436474), .lit (.int .u32 2756734187), .lit (.int .u32 3204031479), .lit (.int .u32 3329325298)]
def laid_coterie_coterieref02_k {H : Type} : DataW H := .agg [.lit (.int .u32 1116352408), .lit (.int .u32 1899447441), .lit (.int .u32 3049323471), .lit (.int .u32 3921009573), .lit (.int .u32 961987163), .lit (.int .u32 1508970993), .lit (.int .u32 2453635748), .lit (.int .u32 2870763221), .lit (.int .u32 3624381080), .lit (.int .u32 310598401), .lit (.int .u32 607225278), .lit (.int .u32 1426881987), .lit (.int .u32 1925078388), .lit (.int .u32 2162078206), .lit (.int .u32 2614888103), .lit (.int .u32 3248222580), .lit (.int .u32 3835390401), .lit (.int .u32 4022224774), .lit (.int .u32 264347078), .lit (.int .u32 604807628), .lit (.int .u32 770255983), .lit (.int .u32 1249150122), .lit (.int .u32 1555081692), .lit (.int .u32 1996064986), .lit (.int .u32 2554220882), .lit (.int .u32 2821834349), .lit (.int .u32 2952996808), .lit (.int .u32 3210313671), .lit (.int .u32 3336571891), .lit (.int .u32 3584528711), .lit (.int .u32 113926993), .lit (.int .u32 338241895), .lit (.int .u32 666307205), .lit (.int .u32 773529912), .lit (.int .u32 1294757372), .lit (.int .u32 1396182291), .lit (.int .u32 1695183700), .lit (.int .u32 1986661051), .lit (.int .u32 2177026350), .lit (.int .u32 2456956037), .lit (.int .u32 2730485921), .lit (.int .u32 2820302411), .lit (.int .u32 3259730800), .lit (.int .u32 3345764771), .lit (.int .u32 3516065817), .lit (.int .u32 3600352804), .lit (.int .u32 4094571909), .lit (.int .u32 275423344), .lit (.int .u32 430227734), .lit (.int .u32 506948616), .lit (.int .u32 659060556), .lit (.int .u32 883997877), .lit (.int .u32 958139571), .lit (.int .u32 1322822218), .lit (.int .u32 1537002063), .lit (.int .u32 1747873779), .lit (.int .u32 1955562222), .lit (.int .u32 2024104815), .lit (.int .u32 2227730452), .lit (.int .u32 2361852424), .lit (.int .u32 2428436474), .lit (.int .u32 2756734187), .lit (.int .u32 3204031479), .lit (.int .u32 3329325298)]

/-- 'coterielaw03.MacBounds': WHATEVER THE INPUT: true; the input reads as it did. -/
def macBoundsSpec : ChangeSpec := { name := "macBounds", fn := fun _ => fun
  | [d1, d2, d3] => { results := [.lit (.bool true)], args := [d1, d2, d3] }
  | _ => none }
def macBoundsRow : OpenClaim := { program := "ytanodhagpegbfaadoor", sum := "0743d727cc836abcf323f6f38b1a1fb35af6c2aa1f4bcd1828771adb68a39b02", func := "coterie/coterielaw03.MacBounds", spec := "macBounds", unfollowed := true, recurses := true, named := ["coterie/sha.adds", "bytes.ErrTooLarge"], apart := false, laid := [("bytes.ErrTooLarge", laid_bytes_ErrTooLarge), ("coterie/sha.adds", laid_coterie_sha_adds)] }
def MacBoundsSaid : Prop := macBoundsRow.holds Tryd.pinned (OpenSpec.ofChange macBoundsSpec)

/-- ITS FALSE NEIGHBOUR: 'it returns false'. Refute it at one input. -/
def macBoundsWrong : ChangeSpec := { name := "macBounds", fn := fun _ => fun
  | [d1, d2, d3] => { results := [.lit (.bool false)], args := [d1, d2, d3] }
  | _ => none }
def MacBoundsWrongFalsely : Prop := macBoundsRow.holds Tryd.pinned (OpenSpec.ofChange macBoundsWrong)

/-- 'coterielaw03.MacDerives': WHATEVER THE INPUT: true; the input reads as it did. -/
def macDerivesSpec : ChangeSpec := { name := "macDerives", fn := fun _ => fun
  | [d1, d2, d3] => { results := [.lit (.bool true)], args := [d1, d2, d3] }
  | _ => none }
def macDerivesRow : OpenClaim := { program := "ytanodhagpegbfaadoor", sum := "0743d727cc836abcf323f6f38b1a1fb35af6c2aa1f4bcd1828771adb68a39b02", func := "coterie/coterielaw03.MacDerives", spec := "macDerives", unfollowed := true, recurses := true, named := ["coterie/sha.adds", "bytes.ErrTooLarge"], apart := false, laid := [("bytes.ErrTooLarge", laid_bytes_ErrTooLarge), ("coterie/sha.adds", laid_coterie_sha_adds)] }
def MacDerivesSaid : Prop := macDerivesRow.holds Tryd.pinned (OpenSpec.ofChange macDerivesSpec)

/-- ITS FALSE NEIGHBOUR: 'it returns false'. Refute it at one input. -/
def macDerivesWrong : ChangeSpec := { name := "macDerives", fn := fun _ => fun
  | [d1, d2, d3] => { results := [.lit (.bool false)], args := [d1, d2, d3] }
  | _ => none }
def MacDerivesWrongFalsely : Prop := macDerivesRow.holds Tryd.pinned (OpenSpec.ofChange macDerivesWrong)

/-- 'coterielaw09.DrawEnds': WHATEVER THE INPUT: true; the input reads as it did. -/
def drawEndsSpec : ChangeSpec := { name := "drawEnds", fn := fun _ => fun
  | [d1, d2] => { results := [.lit (.bool true)], args := [d1, d2] }
  | _ => none }
def drawEndsRow : OpenClaim := { program := "ytanodhagpegbfaadoor", sum := "0743d727cc836abcf323f6f38b1a1fb35af6c2aa1f4bcd1828771adb68a39b02", func := "coterie/coterielaw09.DrawEnds", spec := "drawEnds", unfollowed := true, recurses := true, named := ["bytes.ErrTooLarge", "coterie/sha.adds"], apart := false, laid := [("bytes.ErrTooLarge", laid_bytes_ErrTooLarge), ("coterie/sha.adds", laid_coterie_sha_adds)] }
def DrawEndsSaid : Prop := drawEndsRow.holds Tryd.pinned (OpenSpec.ofChange drawEndsSpec)

/-- ITS FALSE NEIGHBOUR: 'it returns false'. Refute it at one input. -/
def drawEndsWrong : ChangeSpec := { name := "drawEnds", fn := fun _ => fun
  | [d1, d2] => { results := [.lit (.bool false)], args := [d1, d2] }
  | _ => none }
def DrawEndsWrongFalsely : Prop := drawEndsRow.holds Tryd.pinned (OpenSpec.ofChange drawEndsWrong)

/-- 'coterielaw09.DrawForks': WHATEVER THE INPUT: true; the input reads as it did. -/
def drawForksSpec : ChangeSpec := { name := "drawForks", fn := fun _ => fun
  | [d1, d2, d3] => { results := [.lit (.bool true)], args := [d1, d2, d3] }
  | _ => none }
def drawForksRow : OpenClaim := { program := "ytanodhagpegbfaadoor", sum := "0743d727cc836abcf323f6f38b1a1fb35af6c2aa1f4bcd1828771adb68a39b02", func := "coterie/coterielaw09.DrawForks", spec := "drawForks", unfollowed := true, recurses := true, named := ["bytes.ErrTooLarge", "coterie/sha.adds"], apart := false, laid := [("bytes.ErrTooLarge", laid_bytes_ErrTooLarge), ("coterie/sha.adds", laid_coterie_sha_adds)] }
def DrawForksSaid : Prop := drawForksRow.holds Tryd.pinned (OpenSpec.ofChange drawForksSpec)

/-- ITS FALSE NEIGHBOUR: 'it returns false'. Refute it at one input. -/
def drawForksWrong : ChangeSpec := { name := "drawForks", fn := fun _ => fun
  | [d1, d2, d3] => { results := [.lit (.bool false)], args := [d1, d2, d3] }
  | _ => none }
def DrawForksWrongFalsely : Prop := drawForksRow.holds Tryd.pinned (OpenSpec.ofChange drawForksWrong)

/-- 'coterielaw09.DrawParts': WHATEVER THE INPUT: true; the input reads as it did. -/
def drawPartsSpec : ChangeSpec := { name := "drawParts", fn := fun _ => fun
  | [d1, d2, d3] => { results := [.lit (.bool true)], args := [d1, d2, d3] }
  | _ => none }
def drawPartsRow : OpenClaim := { program := "ytanodhagpegbfaadoor", sum := "0743d727cc836abcf323f6f38b1a1fb35af6c2aa1f4bcd1828771adb68a39b02", func := "coterie/coterielaw09.DrawParts", spec := "drawParts", unfollowed := true, recurses := true, named := ["bytes.ErrTooLarge", "coterie/sha.adds"], apart := false, laid := [("bytes.ErrTooLarge", laid_bytes_ErrTooLarge), ("coterie/sha.adds", laid_coterie_sha_adds)] }
def DrawPartsSaid : Prop := drawPartsRow.holds Tryd.pinned (OpenSpec.ofChange drawPartsSpec)

/-- ITS FALSE NEIGHBOUR: 'it returns false'. Refute it at one input. -/
def drawPartsWrong : ChangeSpec := { name := "drawParts", fn := fun _ => fun
  | [d1, d2, d3] => { results := [.lit (.bool false)], args := [d1, d2, d3] }
  | _ => none }
def DrawPartsWrongFalsely : Prop := drawPartsRow.holds Tryd.pinned (OpenSpec.ofChange drawPartsWrong)

/-- 'coterielaw09.DrawDoes': WHATEVER THE INPUT: true; the input reads as it did. -/
def drawDoesSpec : ChangeSpec := { name := "drawDoes", fn := fun _ => fun
  | [d1, d2, d3, d4] => { results := [.lit (.bool true)], args := [d1, d2, d3, d4] }
  | _ => none }
def drawDoesRow : OpenClaim := { program := "ytanodhagpegbfaadoor", sum := "0743d727cc836abcf323f6f38b1a1fb35af6c2aa1f4bcd1828771adb68a39b02", func := "coterie/coterielaw09.DrawDoes", spec := "drawDoes", unfollowed := true, recurses := true, named := ["bytes.ErrTooLarge", "coterie/sha.adds", "coterie/coterieref02.k"], apart := false, laid := [("coterie/coterieref02.k", laid_coterie_coterieref02_k), ("bytes.ErrTooLarge", laid_bytes_ErrTooLarge), ("coterie/sha.adds", laid_coterie_sha_adds)] }
def DrawDoesSaid : Prop := drawDoesRow.holds Tryd.pinned (OpenSpec.ofChange drawDoesSpec)

/-- ITS FALSE NEIGHBOUR: 'it returns false'. Refute it at one input. -/
def drawDoesWrong : ChangeSpec := { name := "drawDoes", fn := fun _ => fun
  | [d1, d2, d3, d4] => { results := [.lit (.bool false)], args := [d1, d2, d3, d4] }
  | _ => none }
def DrawDoesWrongFalsely : Prop := drawDoesRow.holds Tryd.pinned (OpenSpec.ofChange drawDoesWrong)

/-- 'coterielaw14.SchedAlike': WHATEVER THE INPUT: true; the input reads as it did. -/
def schedAlikeSpec : ChangeSpec := { name := "schedAlike", fn := fun _ => fun
  | [d1, d2, d3, d4, d5, d6] => { results := [.lit (.bool true)], args := [d1, d2, d3, d4, d5, d6] }
  | _ => none }
def schedAlikeRow : OpenClaim := { program := "ytanodhagpegbfaadoor", sum := "0743d727cc836abcf323f6f38b1a1fb35af6c2aa1f4bcd1828771adb68a39b02", func := "coterie/coterielaw14.SchedAlike", spec := "schedAlike", unfollowed := true, recurses := true, named := ["coterie/sha.adds", "bytes.ErrTooLarge"], apart := false, laid := [("bytes.ErrTooLarge", laid_bytes_ErrTooLarge), ("coterie/sha.adds", laid_coterie_sha_adds)] }
def SchedAlikeSaid : Prop := schedAlikeRow.holds Tryd.pinned (OpenSpec.ofChange schedAlikeSpec)

/-- ITS FALSE NEIGHBOUR: 'it returns false'. Refute it at one input. -/
def schedAlikeWrong : ChangeSpec := { name := "schedAlike", fn := fun _ => fun
  | [d1, d2, d3, d4, d5, d6] => { results := [.lit (.bool false)], args := [d1, d2, d3, d4, d5, d6] }
  | _ => none }
def SchedAlikeWrongFalsely : Prop := schedAlikeRow.holds Tryd.pinned (OpenSpec.ofChange schedAlikeWrong)

/-- 'coterielaw14.SchedChain': WHATEVER THE INPUT: true; the input reads as it did. -/
def schedChainSpec : ChangeSpec := { name := "schedChain", fn := fun _ => fun
  | [d1, d2, d3] => { results := [.lit (.bool true)], args := [d1, d2, d3] }
  | _ => none }
def schedChainRow : OpenClaim := { program := "ytanodhagpegbfaadoor", sum := "0743d727cc836abcf323f6f38b1a1fb35af6c2aa1f4bcd1828771adb68a39b02", func := "coterie/coterielaw14.SchedChain", spec := "schedChain", unfollowed := true, recurses := true, named := ["coterie/sha.adds", "bytes.ErrTooLarge"], apart := false, laid := [("bytes.ErrTooLarge", laid_bytes_ErrTooLarge), ("coterie/sha.adds", laid_coterie_sha_adds)] }
def SchedChainSaid : Prop := schedChainRow.holds Tryd.pinned (OpenSpec.ofChange schedChainSpec)

/-- ITS FALSE NEIGHBOUR: 'it returns false'. Refute it at one input. -/
def schedChainWrong : ChangeSpec := { name := "schedChain", fn := fun _ => fun
  | [d1, d2, d3] => { results := [.lit (.bool false)], args := [d1, d2, d3] }
  | _ => none }
def SchedChainWrongFalsely : Prop := schedChainRow.holds Tryd.pinned (OpenSpec.ofChange schedChainWrong)

/-- 'coterielaw14.SchedDoes': WHATEVER THE INPUT: true; the input reads as it did. -/
def schedDoesSpec : ChangeSpec := { name := "schedDoes", fn := fun _ => fun
  | [d1, d2, d3, d4, d5, d6] => { results := [.lit (.bool true)], args := [d1, d2, d3, d4, d5, d6] }
  | _ => none }
def schedDoesRow : OpenClaim := { program := "ytanodhagpegbfaadoor", sum := "0743d727cc836abcf323f6f38b1a1fb35af6c2aa1f4bcd1828771adb68a39b02", func := "coterie/coterielaw14.SchedDoes", spec := "schedDoes", unfollowed := true, recurses := true, named := ["coterie/sha.adds", "bytes.ErrTooLarge", "coterie/coterieref02.k"], apart := false, laid := [("coterie/coterieref02.k", laid_coterie_coterieref02_k), ("bytes.ErrTooLarge", laid_bytes_ErrTooLarge), ("coterie/sha.adds", laid_coterie_sha_adds)] }
def SchedDoesSaid : Prop := schedDoesRow.holds Tryd.pinned (OpenSpec.ofChange schedDoesSpec)

/-- ITS FALSE NEIGHBOUR: 'it returns false'. Refute it at one input. -/
def schedDoesWrong : ChangeSpec := { name := "schedDoes", fn := fun _ => fun
  | [d1, d2, d3, d4, d5, d6] => { results := [.lit (.bool false)], args := [d1, d2, d3, d4, d5, d6] }
  | _ => none }
def SchedDoesWrongFalsely : Prop := schedDoesRow.holds Tryd.pinned (OpenSpec.ofChange schedDoesWrong)

/-- 'coterielaw14.SchedMeets': WHATEVER THE INPUT: true; the input reads as it did. -/
def schedMeetsSpec : ChangeSpec := { name := "schedMeets", fn := fun _ => fun
  | [d1, d2, d3, d4] => { results := [.lit (.bool true)], args := [d1, d2, d3, d4] }
  | _ => none }
def schedMeetsRow : OpenClaim := { program := "ytanodhagpegbfaadoor", sum := "0743d727cc836abcf323f6f38b1a1fb35af6c2aa1f4bcd1828771adb68a39b02", func := "coterie/coterielaw14.SchedMeets", spec := "schedMeets", unfollowed := true, recurses := true, named := ["coterie/sha.adds", "bytes.ErrTooLarge"], apart := false, laid := [("bytes.ErrTooLarge", laid_bytes_ErrTooLarge), ("coterie/sha.adds", laid_coterie_sha_adds)] }
def SchedMeetsSaid : Prop := schedMeetsRow.holds Tryd.pinned (OpenSpec.ofChange schedMeetsSpec)

/-- ITS FALSE NEIGHBOUR: 'it returns false'. Refute it at one input. -/
def schedMeetsWrong : ChangeSpec := { name := "schedMeets", fn := fun _ => fun
  | [d1, d2, d3, d4] => { results := [.lit (.bool false)], args := [d1, d2, d3, d4] }
  | _ => none }
def SchedMeetsWrongFalsely : Prop := schedMeetsRow.holds Tryd.pinned (OpenSpec.ofChange schedMeetsWrong)

/-- 'coterielaw15.RatchetFar': WHATEVER THE INPUT: true; the input reads as it did. -/
def ratchetFarSpec : ChangeSpec := { name := "ratchetFar", fn := fun _ => fun
  | [d1, d2, d3, d4] => { results := [.lit (.bool true)], args := [d1, d2, d3, d4] }
  | _ => none }
def ratchetFarRow : OpenClaim := { program := "ytanodhagpegbfaadoor", sum := "0743d727cc836abcf323f6f38b1a1fb35af6c2aa1f4bcd1828771adb68a39b02", func := "coterie/coterielaw15.RatchetFar", spec := "ratchetFar", unfollowed := true, recurses := true, named := ["bytes.ErrTooLarge", "coterie/sha.adds"], apart := false, laid := [("bytes.ErrTooLarge", laid_bytes_ErrTooLarge), ("coterie/sha.adds", laid_coterie_sha_adds)] }
def RatchetFarSaid : Prop := ratchetFarRow.holds Tryd.pinned (OpenSpec.ofChange ratchetFarSpec)

/-- ITS FALSE NEIGHBOUR: 'it returns false'. Refute it at one input. -/
def ratchetFarWrong : ChangeSpec := { name := "ratchetFar", fn := fun _ => fun
  | [d1, d2, d3, d4] => { results := [.lit (.bool false)], args := [d1, d2, d3, d4] }
  | _ => none }
def RatchetFarWrongFalsely : Prop := ratchetFarRow.holds Tryd.pinned (OpenSpec.ofChange ratchetFarWrong)

/-- 'coterielaw15.RatchetLeft': WHATEVER THE INPUT: true; the input reads as it did. -/
def ratchetLeftSpec : ChangeSpec := { name := "ratchetLeft", fn := fun _ => fun
  | [d1, d2] => { results := [.lit (.bool true)], args := [d1, d2] }
  | _ => none }
def ratchetLeftRow : OpenClaim := { program := "ytanodhagpegbfaadoor", sum := "0743d727cc836abcf323f6f38b1a1fb35af6c2aa1f4bcd1828771adb68a39b02", func := "coterie/coterielaw15.RatchetLeft", spec := "ratchetLeft", unfollowed := true, recurses := true, named := ["bytes.ErrTooLarge", "coterie/sha.adds"], apart := false, laid := [("bytes.ErrTooLarge", laid_bytes_ErrTooLarge), ("coterie/sha.adds", laid_coterie_sha_adds)] }
def RatchetLeftSaid : Prop := ratchetLeftRow.holds Tryd.pinned (OpenSpec.ofChange ratchetLeftSpec)

/-- ITS FALSE NEIGHBOUR: 'it returns false'. Refute it at one input. -/
def ratchetLeftWrong : ChangeSpec := { name := "ratchetLeft", fn := fun _ => fun
  | [d1, d2] => { results := [.lit (.bool false)], args := [d1, d2] }
  | _ => none }
def RatchetLeftWrongFalsely : Prop := ratchetLeftRow.holds Tryd.pinned (OpenSpec.ofChange ratchetLeftWrong)

/-- 'coterielaw15.RatchetOnce': WHATEVER THE INPUT: true; the input reads as it did. -/
def ratchetOnceSpec : ChangeSpec := { name := "ratchetOnce", fn := fun _ => fun
  | [d1, d2, d3] => { results := [.lit (.bool true)], args := [d1, d2, d3] }
  | _ => none }
def ratchetOnceRow : OpenClaim := { program := "ytanodhagpegbfaadoor", sum := "0743d727cc836abcf323f6f38b1a1fb35af6c2aa1f4bcd1828771adb68a39b02", func := "coterie/coterielaw15.RatchetOnce", spec := "ratchetOnce", unfollowed := true, recurses := true, named := ["bytes.ErrTooLarge", "coterie/sha.adds"], apart := false, laid := [("bytes.ErrTooLarge", laid_bytes_ErrTooLarge), ("coterie/sha.adds", laid_coterie_sha_adds)] }
def RatchetOnceSaid : Prop := ratchetOnceRow.holds Tryd.pinned (OpenSpec.ofChange ratchetOnceSpec)

/-- ITS FALSE NEIGHBOUR: 'it returns false'. Refute it at one input. -/
def ratchetOnceWrong : ChangeSpec := { name := "ratchetOnce", fn := fun _ => fun
  | [d1, d2, d3] => { results := [.lit (.bool false)], args := [d1, d2, d3] }
  | _ => none }
def RatchetOnceWrongFalsely : Prop := ratchetOnceRow.holds Tryd.pinned (OpenSpec.ofChange ratchetOnceWrong)

/-- 'coterielaw15.RatchetDoes': WHATEVER THE INPUT: true; the input reads as it did. -/
def ratchetDoesSpec : ChangeSpec := { name := "ratchetDoes", fn := fun _ => fun
  | [d1, d2, d3, d4, d5] => { results := [.lit (.bool true)], args := [d1, d2, d3, d4, d5] }
  | _ => none }
def ratchetDoesRow : OpenClaim := { program := "ytanodhagpegbfaadoor", sum := "0743d727cc836abcf323f6f38b1a1fb35af6c2aa1f4bcd1828771adb68a39b02", func := "coterie/coterielaw15.RatchetDoes", spec := "ratchetDoes", unfollowed := true, recurses := true, named := ["bytes.ErrTooLarge", "coterie/sha.adds", "coterie/coterieref02.k"], apart := false, laid := [("coterie/coterieref02.k", laid_coterie_coterieref02_k), ("bytes.ErrTooLarge", laid_bytes_ErrTooLarge), ("coterie/sha.adds", laid_coterie_sha_adds)] }
def RatchetDoesSaid : Prop := ratchetDoesRow.holds Tryd.pinned (OpenSpec.ofChange ratchetDoesSpec)

/-- ITS FALSE NEIGHBOUR: 'it returns false'. Refute it at one input. -/
def ratchetDoesWrong : ChangeSpec := { name := "ratchetDoes", fn := fun _ => fun
  | [d1, d2, d3, d4, d5] => { results := [.lit (.bool false)], args := [d1, d2, d3, d4, d5] }
  | _ => none }
def RatchetDoesWrongFalsely : Prop := ratchetDoesRow.holds Tryd.pinned (OpenSpec.ofChange ratchetDoesWrong)

/-- 'coterielaw15.RatchetNext': WHATEVER THE INPUT: true; the input reads as it did. -/
def ratchetNextSpec : ChangeSpec := { name := "ratchetNext", fn := fun _ => fun
  | [d] => { results := [.lit (.bool true)], args := [d] }
  | _ => none }
def ratchetNextRow : OpenClaim := { program := "ytanodhagpegbfaadoor", sum := "0743d727cc836abcf323f6f38b1a1fb35af6c2aa1f4bcd1828771adb68a39b02", func := "coterie/coterielaw15.RatchetNext", spec := "ratchetNext", unfollowed := true, recurses := true, named := ["bytes.ErrTooLarge", "coterie/sha.adds"], apart := false, laid := [("bytes.ErrTooLarge", laid_bytes_ErrTooLarge), ("coterie/sha.adds", laid_coterie_sha_adds)] }
def RatchetNextSaid : Prop := ratchetNextRow.holds Tryd.pinned (OpenSpec.ofChange ratchetNextSpec)

/-- ITS FALSE NEIGHBOUR: 'it returns false'. Refute it at one input. -/
def ratchetNextWrong : ChangeSpec := { name := "ratchetNext", fn := fun _ => fun
  | [d] => { results := [.lit (.bool false)], args := [d] }
  | _ => none }
def RatchetNextWrongFalsely : Prop := ratchetNextRow.holds Tryd.pinned (OpenSpec.ofChange ratchetNextWrong)

/- THE SECOND FORM. 'bulk': how many values and letters a reading holds, each counted each time it is reached (what is shared counts as often as it is met; a slice's spare places count too). A statement '..UptoSaid' is the law's where the arguments, and the package variables that the reading takes, are together of bulk at most 1048576: NARROWER than '..Said'. Prove '..Said' where nothing that the law and all that it calls make is longer than what came in: it says more and counts as full. Else prove '..UptoSaid'. A law counts once. -/
mutual
def uptoBulk {H : Type} : DataW H → Nat
  | .lit (.string bytes) => bytes.length + 1
  | .lit _ => 1
  | .nil => 1
  | .ptr d => uptoBulk d + 1
  | .slice elems spare => uptoBulkAll elems + uptoBulkAll spare + 1
  | .agg parts => uptoBulkAll parts + 1
  | .iface _ d => uptoBulk d + 1
  | .map entries => uptoBulkEntries entries + 1
  | .held _ => 1
def uptoBulkAll {H : Type} : List (DataW H) → Nat
  | [] => 0
  | d :: r => uptoBulk d + uptoBulkAll r
def uptoBulkEntries {H : Type} : List (Lit × DataW H) → Nat
  | [] => 0
  | x :: r => uptoBulkEntry x + uptoBulkEntries r
def uptoBulkEntry {H : Type} : Lit × DataW H → Nat
  | (.string bytes, d) => bytes.length + uptoBulk d + 1
  | (_, d) => uptoBulk d + 1
 end
def uptoSmall : (H : Type) → List (DataW H) → Bool := fun _ ds => decide (uptoBulkAll ds ≤ 1048576)
def OpenSpec.upto (s : _root_.Go.ChangeSpec) : _root_.Go.OpenSpec := { _root_.Go.OpenSpec.ofChange s with cond := some uptoSmall }

/-- 'coterielaw03.MacBounds', WHERE WHAT IT READS IS OF BULK AT MOST 1048576: true; the input reads as it did. -/
def macBoundsUptoRow : OpenClaim := { program := "ytanodhagpegbfaadoor", sum := "0743d727cc836abcf323f6f38b1a1fb35af6c2aa1f4bcd1828771adb68a39b02", func := "coterie/coterielaw03.MacBounds", spec := "macBounds", unfollowed := true, recurses := true, named := ["coterie/sha.adds", "bytes.ErrTooLarge"], apart := false, laid := [("bytes.ErrTooLarge", laid_bytes_ErrTooLarge), ("coterie/sha.adds", laid_coterie_sha_adds)], narrowed := true }
def MacBoundsUptoSaid : Prop := macBoundsUptoRow.holds Tryd.pinned (OpenSpec.upto macBoundsSpec)

/-- 'coterielaw03.MacDerives', WHERE WHAT IT READS IS OF BULK AT MOST 1048576: true; the input reads as it did. -/
def macDerivesUptoRow : OpenClaim := { program := "ytanodhagpegbfaadoor", sum := "0743d727cc836abcf323f6f38b1a1fb35af6c2aa1f4bcd1828771adb68a39b02", func := "coterie/coterielaw03.MacDerives", spec := "macDerives", unfollowed := true, recurses := true, named := ["coterie/sha.adds", "bytes.ErrTooLarge"], apart := false, laid := [("bytes.ErrTooLarge", laid_bytes_ErrTooLarge), ("coterie/sha.adds", laid_coterie_sha_adds)], narrowed := true }
def MacDerivesUptoSaid : Prop := macDerivesUptoRow.holds Tryd.pinned (OpenSpec.upto macDerivesSpec)

/-- 'coterielaw09.DrawEnds', WHERE WHAT IT READS IS OF BULK AT MOST 1048576: true; the input reads as it did. -/
def drawEndsUptoRow : OpenClaim := { program := "ytanodhagpegbfaadoor", sum := "0743d727cc836abcf323f6f38b1a1fb35af6c2aa1f4bcd1828771adb68a39b02", func := "coterie/coterielaw09.DrawEnds", spec := "drawEnds", unfollowed := true, recurses := true, named := ["bytes.ErrTooLarge", "coterie/sha.adds"], apart := false, laid := [("bytes.ErrTooLarge", laid_bytes_ErrTooLarge), ("coterie/sha.adds", laid_coterie_sha_adds)], narrowed := true }
def DrawEndsUptoSaid : Prop := drawEndsUptoRow.holds Tryd.pinned (OpenSpec.upto drawEndsSpec)

/-- 'coterielaw09.DrawForks', WHERE WHAT IT READS IS OF BULK AT MOST 1048576: true; the input reads as it did. -/
def drawForksUptoRow : OpenClaim := { program := "ytanodhagpegbfaadoor", sum := "0743d727cc836abcf323f6f38b1a1fb35af6c2aa1f4bcd1828771adb68a39b02", func := "coterie/coterielaw09.DrawForks", spec := "drawForks", unfollowed := true, recurses := true, named := ["bytes.ErrTooLarge", "coterie/sha.adds"], apart := false, laid := [("bytes.ErrTooLarge", laid_bytes_ErrTooLarge), ("coterie/sha.adds", laid_coterie_sha_adds)], narrowed := true }
def DrawForksUptoSaid : Prop := drawForksUptoRow.holds Tryd.pinned (OpenSpec.upto drawForksSpec)

/-- 'coterielaw09.DrawParts', WHERE WHAT IT READS IS OF BULK AT MOST 1048576: true; the input reads as it did. -/
def drawPartsUptoRow : OpenClaim := { program := "ytanodhagpegbfaadoor", sum := "0743d727cc836abcf323f6f38b1a1fb35af6c2aa1f4bcd1828771adb68a39b02", func := "coterie/coterielaw09.DrawParts", spec := "drawParts", unfollowed := true, recurses := true, named := ["bytes.ErrTooLarge", "coterie/sha.adds"], apart := false, laid := [("bytes.ErrTooLarge", laid_bytes_ErrTooLarge), ("coterie/sha.adds", laid_coterie_sha_adds)], narrowed := true }
def DrawPartsUptoSaid : Prop := drawPartsUptoRow.holds Tryd.pinned (OpenSpec.upto drawPartsSpec)

/-- 'coterielaw09.DrawDoes', WHERE WHAT IT READS IS OF BULK AT MOST 1048576: true; the input reads as it did. -/
def drawDoesUptoRow : OpenClaim := { program := "ytanodhagpegbfaadoor", sum := "0743d727cc836abcf323f6f38b1a1fb35af6c2aa1f4bcd1828771adb68a39b02", func := "coterie/coterielaw09.DrawDoes", spec := "drawDoes", unfollowed := true, recurses := true, named := ["bytes.ErrTooLarge", "coterie/sha.adds", "coterie/coterieref02.k"], apart := false, laid := [("coterie/coterieref02.k", laid_coterie_coterieref02_k), ("bytes.ErrTooLarge", laid_bytes_ErrTooLarge), ("coterie/sha.adds", laid_coterie_sha_adds)], narrowed := true }
def DrawDoesUptoSaid : Prop := drawDoesUptoRow.holds Tryd.pinned (OpenSpec.upto drawDoesSpec)

/-- 'coterielaw14.SchedAlike', WHERE WHAT IT READS IS OF BULK AT MOST 1048576: true; the input reads as it did. -/
def schedAlikeUptoRow : OpenClaim := { program := "ytanodhagpegbfaadoor", sum := "0743d727cc836abcf323f6f38b1a1fb35af6c2aa1f4bcd1828771adb68a39b02", func := "coterie/coterielaw14.SchedAlike", spec := "schedAlike", unfollowed := true, recurses := true, named := ["coterie/sha.adds", "bytes.ErrTooLarge"], apart := false, laid := [("bytes.ErrTooLarge", laid_bytes_ErrTooLarge), ("coterie/sha.adds", laid_coterie_sha_adds)], narrowed := true }
def SchedAlikeUptoSaid : Prop := schedAlikeUptoRow.holds Tryd.pinned (OpenSpec.upto schedAlikeSpec)

/-- 'coterielaw14.SchedChain', WHERE WHAT IT READS IS OF BULK AT MOST 1048576: true; the input reads as it did. -/
def schedChainUptoRow : OpenClaim := { program := "ytanodhagpegbfaadoor", sum := "0743d727cc836abcf323f6f38b1a1fb35af6c2aa1f4bcd1828771adb68a39b02", func := "coterie/coterielaw14.SchedChain", spec := "schedChain", unfollowed := true, recurses := true, named := ["coterie/sha.adds", "bytes.ErrTooLarge"], apart := false, laid := [("bytes.ErrTooLarge", laid_bytes_ErrTooLarge), ("coterie/sha.adds", laid_coterie_sha_adds)], narrowed := true }
def SchedChainUptoSaid : Prop := schedChainUptoRow.holds Tryd.pinned (OpenSpec.upto schedChainSpec)

/-- 'coterielaw14.SchedDoes', WHERE WHAT IT READS IS OF BULK AT MOST 1048576: true; the input reads as it did. -/
def schedDoesUptoRow : OpenClaim := { program := "ytanodhagpegbfaadoor", sum := "0743d727cc836abcf323f6f38b1a1fb35af6c2aa1f4bcd1828771adb68a39b02", func := "coterie/coterielaw14.SchedDoes", spec := "schedDoes", unfollowed := true, recurses := true, named := ["coterie/sha.adds", "bytes.ErrTooLarge", "coterie/coterieref02.k"], apart := false, laid := [("coterie/coterieref02.k", laid_coterie_coterieref02_k), ("bytes.ErrTooLarge", laid_bytes_ErrTooLarge), ("coterie/sha.adds", laid_coterie_sha_adds)], narrowed := true }
def SchedDoesUptoSaid : Prop := schedDoesUptoRow.holds Tryd.pinned (OpenSpec.upto schedDoesSpec)

/-- 'coterielaw14.SchedMeets', WHERE WHAT IT READS IS OF BULK AT MOST 1048576: true; the input reads as it did. -/
def schedMeetsUptoRow : OpenClaim := { program := "ytanodhagpegbfaadoor", sum := "0743d727cc836abcf323f6f38b1a1fb35af6c2aa1f4bcd1828771adb68a39b02", func := "coterie/coterielaw14.SchedMeets", spec := "schedMeets", unfollowed := true, recurses := true, named := ["coterie/sha.adds", "bytes.ErrTooLarge"], apart := false, laid := [("bytes.ErrTooLarge", laid_bytes_ErrTooLarge), ("coterie/sha.adds", laid_coterie_sha_adds)], narrowed := true }
def SchedMeetsUptoSaid : Prop := schedMeetsUptoRow.holds Tryd.pinned (OpenSpec.upto schedMeetsSpec)

/-- 'coterielaw15.RatchetFar', WHERE WHAT IT READS IS OF BULK AT MOST 1048576: true; the input reads as it did. -/
def ratchetFarUptoRow : OpenClaim := { program := "ytanodhagpegbfaadoor", sum := "0743d727cc836abcf323f6f38b1a1fb35af6c2aa1f4bcd1828771adb68a39b02", func := "coterie/coterielaw15.RatchetFar", spec := "ratchetFar", unfollowed := true, recurses := true, named := ["bytes.ErrTooLarge", "coterie/sha.adds"], apart := false, laid := [("bytes.ErrTooLarge", laid_bytes_ErrTooLarge), ("coterie/sha.adds", laid_coterie_sha_adds)], narrowed := true }
def RatchetFarUptoSaid : Prop := ratchetFarUptoRow.holds Tryd.pinned (OpenSpec.upto ratchetFarSpec)

/-- 'coterielaw15.RatchetLeft', WHERE WHAT IT READS IS OF BULK AT MOST 1048576: true; the input reads as it did. -/
def ratchetLeftUptoRow : OpenClaim := { program := "ytanodhagpegbfaadoor", sum := "0743d727cc836abcf323f6f38b1a1fb35af6c2aa1f4bcd1828771adb68a39b02", func := "coterie/coterielaw15.RatchetLeft", spec := "ratchetLeft", unfollowed := true, recurses := true, named := ["bytes.ErrTooLarge", "coterie/sha.adds"], apart := false, laid := [("bytes.ErrTooLarge", laid_bytes_ErrTooLarge), ("coterie/sha.adds", laid_coterie_sha_adds)], narrowed := true }
def RatchetLeftUptoSaid : Prop := ratchetLeftUptoRow.holds Tryd.pinned (OpenSpec.upto ratchetLeftSpec)

/-- 'coterielaw15.RatchetOnce', WHERE WHAT IT READS IS OF BULK AT MOST 1048576: true; the input reads as it did. -/
def ratchetOnceUptoRow : OpenClaim := { program := "ytanodhagpegbfaadoor", sum := "0743d727cc836abcf323f6f38b1a1fb35af6c2aa1f4bcd1828771adb68a39b02", func := "coterie/coterielaw15.RatchetOnce", spec := "ratchetOnce", unfollowed := true, recurses := true, named := ["bytes.ErrTooLarge", "coterie/sha.adds"], apart := false, laid := [("bytes.ErrTooLarge", laid_bytes_ErrTooLarge), ("coterie/sha.adds", laid_coterie_sha_adds)], narrowed := true }
def RatchetOnceUptoSaid : Prop := ratchetOnceUptoRow.holds Tryd.pinned (OpenSpec.upto ratchetOnceSpec)

/-- 'coterielaw15.RatchetDoes', WHERE WHAT IT READS IS OF BULK AT MOST 1048576: true; the input reads as it did. -/
def ratchetDoesUptoRow : OpenClaim := { program := "ytanodhagpegbfaadoor", sum := "0743d727cc836abcf323f6f38b1a1fb35af6c2aa1f4bcd1828771adb68a39b02", func := "coterie/coterielaw15.RatchetDoes", spec := "ratchetDoes", unfollowed := true, recurses := true, named := ["bytes.ErrTooLarge", "coterie/sha.adds", "coterie/coterieref02.k"], apart := false, laid := [("coterie/coterieref02.k", laid_coterie_coterieref02_k), ("bytes.ErrTooLarge", laid_bytes_ErrTooLarge), ("coterie/sha.adds", laid_coterie_sha_adds)], narrowed := true }
def RatchetDoesUptoSaid : Prop := ratchetDoesUptoRow.holds Tryd.pinned (OpenSpec.upto ratchetDoesSpec)

/-- 'coterielaw15.RatchetNext', WHERE WHAT IT READS IS OF BULK AT MOST 1048576: true; the input reads as it did. -/
def ratchetNextUptoRow : OpenClaim := { program := "ytanodhagpegbfaadoor", sum := "0743d727cc836abcf323f6f38b1a1fb35af6c2aa1f4bcd1828771adb68a39b02", func := "coterie/coterielaw15.RatchetNext", spec := "ratchetNext", unfollowed := true, recurses := true, named := ["bytes.ErrTooLarge", "coterie/sha.adds"], apart := false, laid := [("bytes.ErrTooLarge", laid_bytes_ErrTooLarge), ("coterie/sha.adds", laid_coterie_sha_adds)], narrowed := true }
def RatchetNextUptoSaid : Prop := ratchetNextUptoRow.holds Tryd.pinned (OpenSpec.upto ratchetNextSpec)

end Rows
end Go.Proofs.YtanodhagpegbfaaDoor
