/-
  DERIVED. GIVEN WITH THE SEED: THE CARDS: each row of YtdbhlajajdlmfaaDoorRows.lean that lists a variable, with what it lists TIED to the program's text (the seventh form; the later family's looks); each row that meets fmt, with fmt's text TOLD by the authors' own Lean function (tested against real Go, not proved from fmt's source: count such statements apart). THE CARD IS WHAT COUNTS. Prove the row's statement (the work); the ties are given (YtdbhlajajdlmfaaDoorTie.lean); close each card by the builder's one call (the guide's Derived/Test/ToyasCard.lean, 'card_holds'). Laid BY PROGRAM, IN A SANDBOX (cutbox-door.mjs). By AI agents, Wed Nov 11 2026. No macro, syntax, notation, axiom, sorry.
-/
import Derived.Test.YtdbhlajajdlmfaaDoorRows
import GoSem.ClaimSeven
namespace Go.Proofs.YtdbhlajajdlmfaaDoor
namespace Rows

/-- THE TIED CARD OF 'coterielaw13.TagWay'. -/
def tagWayCard : Claim7 := { stood := { row := tagWayRow, standIns := [], harness := (true, "172ba1b6cba97a96d81671ea4d317d80628cf6ec384afc9307961d074c5a6805"), looks := false }, kinds := [], alts := [], laidByText := true, laidKinds := [.sentinel, .data], laidTests := true, laidLooks := .later }
def TagWayCardSaid : Prop := Claim7.holds Tryd.pinned (.plain (OpenSpec.ofChange tagWaySpec)) tagWayCard

/-- THE TIED CARD OF 'coterielaw13.TagTells'. -/
def tagTellsCard : Claim7 := { stood := { row := tagTellsRow, standIns := [], harness := (true, "172ba1b6cba97a96d81671ea4d317d80628cf6ec384afc9307961d074c5a6805"), looks := false }, kinds := [], alts := [], laidByText := true, laidKinds := [.data, .sentinel, .data], laidTests := true, laidLooks := .later }
def TagTellsCardSaid : Prop := Claim7.holds Tryd.pinned (.plain (OpenSpec.ofChange tagTellsSpec)) tagTellsCard

/-- THE TIED CARD OF 'coterielaw13.TagReads'. -/
def tagReadsCard : Claim7 := { stood := { row := tagReadsRow, standIns := [], harness := (true, "172ba1b6cba97a96d81671ea4d317d80628cf6ec384afc9307961d074c5a6805"), looks := false }, kinds := [], alts := [], laidByText := true, laidKinds := [.sentinel, .data], laidTests := true, laidLooks := .later }
def TagReadsCardSaid : Prop := Claim7.holds Tryd.pinned (.plain (OpenSpec.ofChange tagReadsSpec)) tagReadsCard

/-- THE TIED CARD OF 'coterielaw13.TagLeaves'. -/
def tagLeavesCard : Claim7 := { stood := { row := tagLeavesRow, standIns := [], harness := (true, "172ba1b6cba97a96d81671ea4d317d80628cf6ec384afc9307961d074c5a6805"), looks := false }, kinds := [], alts := [], laidByText := true, laidKinds := [.sentinel, .data], laidTests := true, laidLooks := .later }
def TagLeavesCardSaid : Prop := Claim7.holds Tryd.pinned (.plain (OpenSpec.ofChange tagLeavesSpec)) tagLeavesCard

/-- THE TIED CARD OF 'coterielaw13.TagBack'. -/
def tagBackCard : Claim7 := { stood := { row := tagBackRow, standIns := [], harness := (true, "172ba1b6cba97a96d81671ea4d317d80628cf6ec384afc9307961d074c5a6805"), looks := false }, kinds := [], alts := [], laidByText := true, laidKinds := [.sentinel, .data], laidTests := true, laidLooks := .later }
def TagBackCardSaid : Prop := Claim7.holds Tryd.pinned (.plain (OpenSpec.ofChange tagBackSpec)) tagBackCard

/-- THE SECOND FORM's CARD OF 'coterielaw13.TagWay'. -/
def tagWayUptoCard : Claim7 := { stood := { row := tagWayUptoRow, standIns := [], harness := (true, "172ba1b6cba97a96d81671ea4d317d80628cf6ec384afc9307961d074c5a6805"), looks := false }, kinds := [], alts := [], laidByText := true, laidKinds := [.sentinel, .data], laidTests := true, laidLooks := .later }
def TagWayUptoCardSaid : Prop := Claim7.holds Tryd.pinned (.plain (OpenSpec.upto tagWaySpec)) tagWayUptoCard

/-- THE SECOND FORM's CARD OF 'coterielaw13.TagTells'. -/
def tagTellsUptoCard : Claim7 := { stood := { row := tagTellsUptoRow, standIns := [], harness := (true, "172ba1b6cba97a96d81671ea4d317d80628cf6ec384afc9307961d074c5a6805"), looks := false }, kinds := [], alts := [], laidByText := true, laidKinds := [.data, .sentinel, .data], laidTests := true, laidLooks := .later }
def TagTellsUptoCardSaid : Prop := Claim7.holds Tryd.pinned (.plain (OpenSpec.upto tagTellsSpec)) tagTellsUptoCard

/-- THE SECOND FORM's CARD OF 'coterielaw13.TagReads'. -/
def tagReadsUptoCard : Claim7 := { stood := { row := tagReadsUptoRow, standIns := [], harness := (true, "172ba1b6cba97a96d81671ea4d317d80628cf6ec384afc9307961d074c5a6805"), looks := false }, kinds := [], alts := [], laidByText := true, laidKinds := [.sentinel, .data], laidTests := true, laidLooks := .later }
def TagReadsUptoCardSaid : Prop := Claim7.holds Tryd.pinned (.plain (OpenSpec.upto tagReadsSpec)) tagReadsUptoCard

/-- THE SECOND FORM's CARD OF 'coterielaw13.TagLeaves'. -/
def tagLeavesUptoCard : Claim7 := { stood := { row := tagLeavesUptoRow, standIns := [], harness := (true, "172ba1b6cba97a96d81671ea4d317d80628cf6ec384afc9307961d074c5a6805"), looks := false }, kinds := [], alts := [], laidByText := true, laidKinds := [.sentinel, .data], laidTests := true, laidLooks := .later }
def TagLeavesUptoCardSaid : Prop := Claim7.holds Tryd.pinned (.plain (OpenSpec.upto tagLeavesSpec)) tagLeavesUptoCard

/-- THE SECOND FORM's CARD OF 'coterielaw13.TagBack'. -/
def tagBackUptoCard : Claim7 := { stood := { row := tagBackUptoRow, standIns := [], harness := (true, "172ba1b6cba97a96d81671ea4d317d80628cf6ec384afc9307961d074c5a6805"), looks := false }, kinds := [], alts := [], laidByText := true, laidKinds := [.sentinel, .data], laidTests := true, laidLooks := .later }
def TagBackUptoCardSaid : Prop := Claim7.holds Tryd.pinned (.plain (OpenSpec.upto tagBackSpec)) tagBackUptoCard
end Rows
end Go.Proofs.YtdbhlajajdlmfaaDoor
