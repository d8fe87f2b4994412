/-
  DERIVED. GIVEN WITH THE SEED: THE CARDS: each row of YtanodhagpegbfaaDoorRows.lean that lists a variable, with what it lists TIED to the program's text (the seventh form; the later family's looks); each row that meets fmt, with fmt's text TOLD by the authors' own Lean function (tested against real Go, not proved from fmt's source: count such statements apart). THE CARD IS WHAT COUNTS. Prove the row's statement (the work); the ties are given (YtanodhagpegbfaaDoorTie.lean); close each card by the builder's one call (the guide's Derived/Test/ToyasCard.lean, 'card_holds'). Laid BY PROGRAM, IN A SANDBOX (cutbox-door.mjs). By AI agents, Wed Nov 11 2026. No macro, syntax, notation, axiom, sorry.
-/
import Derived.Test.YtanodhagpegbfaaDoorRows
import GoSem.ClaimSeven
namespace Go.Proofs.YtanodhagpegbfaaDoor
namespace Rows

/-- THE TIED CARD OF 'coterielaw03.MacBounds'. -/
def macBoundsCard : Claim7 := { stood := { row := macBoundsRow, standIns := [], harness := (true, "918f4ae6823fac4756e478de944acc4b6cb4452a1a1b31a23690fa885d493960"), looks := false }, kinds := [], alts := [], laidByText := true, laidKinds := [.sentinel, .data], laidTests := true, laidLooks := .later }
def MacBoundsCardSaid : Prop := Claim7.holds Tryd.pinned (.plain (OpenSpec.ofChange macBoundsSpec)) macBoundsCard

/-- THE TIED CARD OF 'coterielaw03.MacDerives'. -/
def macDerivesCard : Claim7 := { stood := { row := macDerivesRow, standIns := [], harness := (true, "918f4ae6823fac4756e478de944acc4b6cb4452a1a1b31a23690fa885d493960"), looks := false }, kinds := [], alts := [], laidByText := true, laidKinds := [.sentinel, .data], laidTests := true, laidLooks := .later }
def MacDerivesCardSaid : Prop := Claim7.holds Tryd.pinned (.plain (OpenSpec.ofChange macDerivesSpec)) macDerivesCard

/-- THE TIED CARD OF 'coterielaw09.DrawEnds'. -/
def drawEndsCard : Claim7 := { stood := { row := drawEndsRow, standIns := [], harness := (true, "918f4ae6823fac4756e478de944acc4b6cb4452a1a1b31a23690fa885d493960"), looks := false }, kinds := [], alts := [], laidByText := true, laidKinds := [.sentinel, .data], laidTests := true, laidLooks := .later }
def DrawEndsCardSaid : Prop := Claim7.holds Tryd.pinned (.plain (OpenSpec.ofChange drawEndsSpec)) drawEndsCard

/-- THE TIED CARD OF 'coterielaw09.DrawForks'. -/
def drawForksCard : Claim7 := { stood := { row := drawForksRow, standIns := [], harness := (true, "918f4ae6823fac4756e478de944acc4b6cb4452a1a1b31a23690fa885d493960"), looks := false }, kinds := [], alts := [], laidByText := true, laidKinds := [.sentinel, .data], laidTests := true, laidLooks := .later }
def DrawForksCardSaid : Prop := Claim7.holds Tryd.pinned (.plain (OpenSpec.ofChange drawForksSpec)) drawForksCard

/-- THE TIED CARD OF 'coterielaw09.DrawParts'. -/
def drawPartsCard : Claim7 := { stood := { row := drawPartsRow, standIns := [], harness := (true, "918f4ae6823fac4756e478de944acc4b6cb4452a1a1b31a23690fa885d493960"), looks := false }, kinds := [], alts := [], laidByText := true, laidKinds := [.sentinel, .data], laidTests := true, laidLooks := .later }
def DrawPartsCardSaid : Prop := Claim7.holds Tryd.pinned (.plain (OpenSpec.ofChange drawPartsSpec)) drawPartsCard

/-- THE TIED CARD OF 'coterielaw09.DrawDoes'. -/
def drawDoesCard : Claim7 := { stood := { row := drawDoesRow, standIns := [], harness := (true, "918f4ae6823fac4756e478de944acc4b6cb4452a1a1b31a23690fa885d493960"), looks := false }, kinds := [], alts := [], laidByText := true, laidKinds := [.data, .sentinel, .data], laidTests := true, laidLooks := .later }
def DrawDoesCardSaid : Prop := Claim7.holds Tryd.pinned (.plain (OpenSpec.ofChange drawDoesSpec)) drawDoesCard

/-- THE TIED CARD OF 'coterielaw14.SchedAlike'. -/
def schedAlikeCard : Claim7 := { stood := { row := schedAlikeRow, standIns := [], harness := (true, "918f4ae6823fac4756e478de944acc4b6cb4452a1a1b31a23690fa885d493960"), looks := false }, kinds := [], alts := [], laidByText := true, laidKinds := [.sentinel, .data], laidTests := true, laidLooks := .later }
def SchedAlikeCardSaid : Prop := Claim7.holds Tryd.pinned (.plain (OpenSpec.ofChange schedAlikeSpec)) schedAlikeCard

/-- THE TIED CARD OF 'coterielaw14.SchedChain'. -/
def schedChainCard : Claim7 := { stood := { row := schedChainRow, standIns := [], harness := (true, "918f4ae6823fac4756e478de944acc4b6cb4452a1a1b31a23690fa885d493960"), looks := false }, kinds := [], alts := [], laidByText := true, laidKinds := [.sentinel, .data], laidTests := true, laidLooks := .later }
def SchedChainCardSaid : Prop := Claim7.holds Tryd.pinned (.plain (OpenSpec.ofChange schedChainSpec)) schedChainCard

/-- THE TIED CARD OF 'coterielaw14.SchedDoes'. -/
def schedDoesCard : Claim7 := { stood := { row := schedDoesRow, standIns := [], harness := (true, "918f4ae6823fac4756e478de944acc4b6cb4452a1a1b31a23690fa885d493960"), looks := false }, kinds := [], alts := [], laidByText := true, laidKinds := [.data, .sentinel, .data], laidTests := true, laidLooks := .later }
def SchedDoesCardSaid : Prop := Claim7.holds Tryd.pinned (.plain (OpenSpec.ofChange schedDoesSpec)) schedDoesCard

/-- THE TIED CARD OF 'coterielaw14.SchedMeets'. -/
def schedMeetsCard : Claim7 := { stood := { row := schedMeetsRow, standIns := [], harness := (true, "918f4ae6823fac4756e478de944acc4b6cb4452a1a1b31a23690fa885d493960"), looks := false }, kinds := [], alts := [], laidByText := true, laidKinds := [.sentinel, .data], laidTests := true, laidLooks := .later }
def SchedMeetsCardSaid : Prop := Claim7.holds Tryd.pinned (.plain (OpenSpec.ofChange schedMeetsSpec)) schedMeetsCard

/-- THE TIED CARD OF 'coterielaw15.RatchetFar'. -/
def ratchetFarCard : Claim7 := { stood := { row := ratchetFarRow, standIns := [], harness := (true, "918f4ae6823fac4756e478de944acc4b6cb4452a1a1b31a23690fa885d493960"), looks := false }, kinds := [], alts := [], laidByText := true, laidKinds := [.sentinel, .data], laidTests := true, laidLooks := .later }
def RatchetFarCardSaid : Prop := Claim7.holds Tryd.pinned (.plain (OpenSpec.ofChange ratchetFarSpec)) ratchetFarCard

/-- THE TIED CARD OF 'coterielaw15.RatchetLeft'. -/
def ratchetLeftCard : Claim7 := { stood := { row := ratchetLeftRow, standIns := [], harness := (true, "918f4ae6823fac4756e478de944acc4b6cb4452a1a1b31a23690fa885d493960"), looks := false }, kinds := [], alts := [], laidByText := true, laidKinds := [.sentinel, .data], laidTests := true, laidLooks := .later }
def RatchetLeftCardSaid : Prop := Claim7.holds Tryd.pinned (.plain (OpenSpec.ofChange ratchetLeftSpec)) ratchetLeftCard

/-- THE TIED CARD OF 'coterielaw15.RatchetOnce'. -/
def ratchetOnceCard : Claim7 := { stood := { row := ratchetOnceRow, standIns := [], harness := (true, "918f4ae6823fac4756e478de944acc4b6cb4452a1a1b31a23690fa885d493960"), looks := false }, kinds := [], alts := [], laidByText := true, laidKinds := [.sentinel, .data], laidTests := true, laidLooks := .later }
def RatchetOnceCardSaid : Prop := Claim7.holds Tryd.pinned (.plain (OpenSpec.ofChange ratchetOnceSpec)) ratchetOnceCard

/-- THE TIED CARD OF 'coterielaw15.RatchetDoes'. -/
def ratchetDoesCard : Claim7 := { stood := { row := ratchetDoesRow, standIns := [], harness := (true, "918f4ae6823fac4756e478de944acc4b6cb4452a1a1b31a23690fa885d493960"), looks := false }, kinds := [], alts := [], laidByText := true, laidKinds := [.data, .sentinel, .data], laidTests := true, laidLooks := .later }
def RatchetDoesCardSaid : Prop := Claim7.holds Tryd.pinned (.plain (OpenSpec.ofChange ratchetDoesSpec)) ratchetDoesCard

/-- THE TIED CARD OF 'coterielaw15.RatchetNext'. -/
def ratchetNextCard : Claim7 := { stood := { row := ratchetNextRow, standIns := [], harness := (true, "918f4ae6823fac4756e478de944acc4b6cb4452a1a1b31a23690fa885d493960"), looks := false }, kinds := [], alts := [], laidByText := true, laidKinds := [.sentinel, .data], laidTests := true, laidLooks := .later }
def RatchetNextCardSaid : Prop := Claim7.holds Tryd.pinned (.plain (OpenSpec.ofChange ratchetNextSpec)) ratchetNextCard

/-- THE SECOND FORM's CARD OF 'coterielaw03.MacBounds'. -/
def macBoundsUptoCard : Claim7 := { stood := { row := macBoundsUptoRow, standIns := [], harness := (true, "918f4ae6823fac4756e478de944acc4b6cb4452a1a1b31a23690fa885d493960"), looks := false }, kinds := [], alts := [], laidByText := true, laidKinds := [.sentinel, .data], laidTests := true, laidLooks := .later }
def MacBoundsUptoCardSaid : Prop := Claim7.holds Tryd.pinned (.plain (OpenSpec.upto macBoundsSpec)) macBoundsUptoCard

/-- THE SECOND FORM's CARD OF 'coterielaw03.MacDerives'. -/
def macDerivesUptoCard : Claim7 := { stood := { row := macDerivesUptoRow, standIns := [], harness := (true, "918f4ae6823fac4756e478de944acc4b6cb4452a1a1b31a23690fa885d493960"), looks := false }, kinds := [], alts := [], laidByText := true, laidKinds := [.sentinel, .data], laidTests := true, laidLooks := .later }
def MacDerivesUptoCardSaid : Prop := Claim7.holds Tryd.pinned (.plain (OpenSpec.upto macDerivesSpec)) macDerivesUptoCard

/-- THE SECOND FORM's CARD OF 'coterielaw09.DrawEnds'. -/
def drawEndsUptoCard : Claim7 := { stood := { row := drawEndsUptoRow, standIns := [], harness := (true, "918f4ae6823fac4756e478de944acc4b6cb4452a1a1b31a23690fa885d493960"), looks := false }, kinds := [], alts := [], laidByText := true, laidKinds := [.sentinel, .data], laidTests := true, laidLooks := .later }
def DrawEndsUptoCardSaid : Prop := Claim7.holds Tryd.pinned (.plain (OpenSpec.upto drawEndsSpec)) drawEndsUptoCard

/-- THE SECOND FORM's CARD OF 'coterielaw09.DrawForks'. -/
def drawForksUptoCard : Claim7 := { stood := { row := drawForksUptoRow, standIns := [], harness := (true, "918f4ae6823fac4756e478de944acc4b6cb4452a1a1b31a23690fa885d493960"), looks := false }, kinds := [], alts := [], laidByText := true, laidKinds := [.sentinel, .data], laidTests := true, laidLooks := .later }
def DrawForksUptoCardSaid : Prop := Claim7.holds Tryd.pinned (.plain (OpenSpec.upto drawForksSpec)) drawForksUptoCard

/-- THE SECOND FORM's CARD OF 'coterielaw09.DrawParts'. -/
def drawPartsUptoCard : Claim7 := { stood := { row := drawPartsUptoRow, standIns := [], harness := (true, "918f4ae6823fac4756e478de944acc4b6cb4452a1a1b31a23690fa885d493960"), looks := false }, kinds := [], alts := [], laidByText := true, laidKinds := [.sentinel, .data], laidTests := true, laidLooks := .later }
def DrawPartsUptoCardSaid : Prop := Claim7.holds Tryd.pinned (.plain (OpenSpec.upto drawPartsSpec)) drawPartsUptoCard

/-- THE SECOND FORM's CARD OF 'coterielaw09.DrawDoes'. -/
def drawDoesUptoCard : Claim7 := { stood := { row := drawDoesUptoRow, standIns := [], harness := (true, "918f4ae6823fac4756e478de944acc4b6cb4452a1a1b31a23690fa885d493960"), looks := false }, kinds := [], alts := [], laidByText := true, laidKinds := [.data, .sentinel, .data], laidTests := true, laidLooks := .later }
def DrawDoesUptoCardSaid : Prop := Claim7.holds Tryd.pinned (.plain (OpenSpec.upto drawDoesSpec)) drawDoesUptoCard

/-- THE SECOND FORM's CARD OF 'coterielaw14.SchedAlike'. -/
def schedAlikeUptoCard : Claim7 := { stood := { row := schedAlikeUptoRow, standIns := [], harness := (true, "918f4ae6823fac4756e478de944acc4b6cb4452a1a1b31a23690fa885d493960"), looks := false }, kinds := [], alts := [], laidByText := true, laidKinds := [.sentinel, .data], laidTests := true, laidLooks := .later }
def SchedAlikeUptoCardSaid : Prop := Claim7.holds Tryd.pinned (.plain (OpenSpec.upto schedAlikeSpec)) schedAlikeUptoCard

/-- THE SECOND FORM's CARD OF 'coterielaw14.SchedChain'. -/
def schedChainUptoCard : Claim7 := { stood := { row := schedChainUptoRow, standIns := [], harness := (true, "918f4ae6823fac4756e478de944acc4b6cb4452a1a1b31a23690fa885d493960"), looks := false }, kinds := [], alts := [], laidByText := true, laidKinds := [.sentinel, .data], laidTests := true, laidLooks := .later }
def SchedChainUptoCardSaid : Prop := Claim7.holds Tryd.pinned (.plain (OpenSpec.upto schedChainSpec)) schedChainUptoCard

/-- THE SECOND FORM's CARD OF 'coterielaw14.SchedDoes'. -/
def schedDoesUptoCard : Claim7 := { stood := { row := schedDoesUptoRow, standIns := [], harness := (true, "918f4ae6823fac4756e478de944acc4b6cb4452a1a1b31a23690fa885d493960"), looks := false }, kinds := [], alts := [], laidByText := true, laidKinds := [.data, .sentinel, .data], laidTests := true, laidLooks := .later }
def SchedDoesUptoCardSaid : Prop := Claim7.holds Tryd.pinned (.plain (OpenSpec.upto schedDoesSpec)) schedDoesUptoCard

/-- THE SECOND FORM's CARD OF 'coterielaw14.SchedMeets'. -/
def schedMeetsUptoCard : Claim7 := { stood := { row := schedMeetsUptoRow, standIns := [], harness := (true, "918f4ae6823fac4756e478de944acc4b6cb4452a1a1b31a23690fa885d493960"), looks := false }, kinds := [], alts := [], laidByText := true, laidKinds := [.sentinel, .data], laidTests := true, laidLooks := .later }
def SchedMeetsUptoCardSaid : Prop := Claim7.holds Tryd.pinned (.plain (OpenSpec.upto schedMeetsSpec)) schedMeetsUptoCard

/-- THE SECOND FORM's CARD OF 'coterielaw15.RatchetFar'. -/
def ratchetFarUptoCard : Claim7 := { stood := { row := ratchetFarUptoRow, standIns := [], harness := (true, "918f4ae6823fac4756e478de944acc4b6cb4452a1a1b31a23690fa885d493960"), looks := false }, kinds := [], alts := [], laidByText := true, laidKinds := [.sentinel, .data], laidTests := true, laidLooks := .later }
def RatchetFarUptoCardSaid : Prop := Claim7.holds Tryd.pinned (.plain (OpenSpec.upto ratchetFarSpec)) ratchetFarUptoCard

/-- THE SECOND FORM's CARD OF 'coterielaw15.RatchetLeft'. -/
def ratchetLeftUptoCard : Claim7 := { stood := { row := ratchetLeftUptoRow, standIns := [], harness := (true, "918f4ae6823fac4756e478de944acc4b6cb4452a1a1b31a23690fa885d493960"), looks := false }, kinds := [], alts := [], laidByText := true, laidKinds := [.sentinel, .data], laidTests := true, laidLooks := .later }
def RatchetLeftUptoCardSaid : Prop := Claim7.holds Tryd.pinned (.plain (OpenSpec.upto ratchetLeftSpec)) ratchetLeftUptoCard

/-- THE SECOND FORM's CARD OF 'coterielaw15.RatchetOnce'. -/
def ratchetOnceUptoCard : Claim7 := { stood := { row := ratchetOnceUptoRow, standIns := [], harness := (true, "918f4ae6823fac4756e478de944acc4b6cb4452a1a1b31a23690fa885d493960"), looks := false }, kinds := [], alts := [], laidByText := true, laidKinds := [.sentinel, .data], laidTests := true, laidLooks := .later }
def RatchetOnceUptoCardSaid : Prop := Claim7.holds Tryd.pinned (.plain (OpenSpec.upto ratchetOnceSpec)) ratchetOnceUptoCard

/-- THE SECOND FORM's CARD OF 'coterielaw15.RatchetDoes'. -/
def ratchetDoesUptoCard : Claim7 := { stood := { row := ratchetDoesUptoRow, standIns := [], harness := (true, "918f4ae6823fac4756e478de944acc4b6cb4452a1a1b31a23690fa885d493960"), looks := false }, kinds := [], alts := [], laidByText := true, laidKinds := [.data, .sentinel, .data], laidTests := true, laidLooks := .later }
def RatchetDoesUptoCardSaid : Prop := Claim7.holds Tryd.pinned (.plain (OpenSpec.upto ratchetDoesSpec)) ratchetDoesUptoCard

/-- THE SECOND FORM's CARD OF 'coterielaw15.RatchetNext'. -/
def ratchetNextUptoCard : Claim7 := { stood := { row := ratchetNextUptoRow, standIns := [], harness := (true, "918f4ae6823fac4756e478de944acc4b6cb4452a1a1b31a23690fa885d493960"), looks := false }, kinds := [], alts := [], laidByText := true, laidKinds := [.sentinel, .data], laidTests := true, laidLooks := .later }
def RatchetNextUptoCardSaid : Prop := Claim7.holds Tryd.pinned (.plain (OpenSpec.upto ratchetNextSpec)) ratchetNextUptoCard
end Rows
end Go.Proofs.YtanodhagpegbfaaDoor
