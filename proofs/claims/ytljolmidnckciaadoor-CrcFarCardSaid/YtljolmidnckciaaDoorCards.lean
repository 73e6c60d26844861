/-
  DERIVED. GIVEN WITH THE SEED: THE CARDS: each row of YtljolmidnckciaaDoorRows.lean that lists a variable, with what it lists TIED to the program's text (the seventh form; the later family's looks); each row that meets fmt, with fmt's text TOLD by the authors' own Lean function (tested against real Go, not proved from fmt's source: count such statements apart). THE CARD IS WHAT COUNTS. Prove the row's statement (the work); the ties are given (YtljolmidnckciaaDoorTie.lean); close each card by the builder's one call (the guide's Derived/Test/ToyasCard.lean, 'card_holds'). Laid BY PROGRAM, IN A SANDBOX (cutbox-door.mjs). By AI agents, Wed Nov 11 2026. No macro, syntax, notation, axiom, sorry.
-/
import Derived.Test.YtljolmidnckciaaDoorRows
import GoSem.ClaimSeven
namespace Go.Proofs.YtljolmidnckciaaDoor
namespace Rows

/-- THE TIED CARD OF 'palaverlaw02.CrcJoins'. -/
def crcJoinsCard : Claim7 := { stood := { row := crcJoinsRow, standIns := [], harness := (true, "05831dd2a190ffa947e60e305967cbcea72aa19f432c4cdacd4d9ee02d6953c6"), looks := false }, kinds := [], alts := [], laidByText := true, laidKinds := [.data], laidTests := true, laidLooks := .later }
def CrcJoinsCardSaid : Prop := Claim7.holds Tryd.pinned (.plain (OpenSpec.ofChange crcJoinsSpec)) crcJoinsCard

/-- THE TIED CARD OF 'palaverlaw02.CrcParts'. -/
def crcPartsCard : Claim7 := { stood := { row := crcPartsRow, standIns := [], harness := (true, "05831dd2a190ffa947e60e305967cbcea72aa19f432c4cdacd4d9ee02d6953c6"), looks := false }, kinds := [], alts := [], laidByText := true, laidKinds := [.data], laidTests := true, laidLooks := .later }
def CrcPartsCardSaid : Prop := Claim7.holds Tryd.pinned (.plain (OpenSpec.ofChange crcPartsSpec)) crcPartsCard

/-- THE TIED CARD OF 'palaverlaw02.CrcFar'. -/
def crcFarCard : Claim7 := { stood := { row := crcFarRow, standIns := [], harness := (true, "05831dd2a190ffa947e60e305967cbcea72aa19f432c4cdacd4d9ee02d6953c6"), looks := false }, kinds := [], alts := [], laidByText := true, laidKinds := [.data], laidTests := true, laidLooks := .later }
def CrcFarCardSaid : Prop := Claim7.holds Tryd.pinned (.plain (OpenSpec.ofChange crcFarSpec)) crcFarCard

/-- THE SECOND FORM's CARD OF 'palaverlaw02.CrcJoins'. -/
def crcJoinsUptoCard : Claim7 := { stood := { row := crcJoinsUptoRow, standIns := [], harness := (true, "05831dd2a190ffa947e60e305967cbcea72aa19f432c4cdacd4d9ee02d6953c6"), looks := false }, kinds := [], alts := [], laidByText := true, laidKinds := [.data], laidTests := true, laidLooks := .later }
def CrcJoinsUptoCardSaid : Prop := Claim7.holds Tryd.pinned (.plain (OpenSpec.upto crcJoinsSpec)) crcJoinsUptoCard

/-- THE SECOND FORM's CARD OF 'palaverlaw02.CrcParts'. -/
def crcPartsUptoCard : Claim7 := { stood := { row := crcPartsUptoRow, standIns := [], harness := (true, "05831dd2a190ffa947e60e305967cbcea72aa19f432c4cdacd4d9ee02d6953c6"), looks := false }, kinds := [], alts := [], laidByText := true, laidKinds := [.data], laidTests := true, laidLooks := .later }
def CrcPartsUptoCardSaid : Prop := Claim7.holds Tryd.pinned (.plain (OpenSpec.upto crcPartsSpec)) crcPartsUptoCard

/-- THE SECOND FORM's CARD OF 'palaverlaw02.CrcFar'. -/
def crcFarUptoCard : Claim7 := { stood := { row := crcFarUptoRow, standIns := [], harness := (true, "05831dd2a190ffa947e60e305967cbcea72aa19f432c4cdacd4d9ee02d6953c6"), looks := false }, kinds := [], alts := [], laidByText := true, laidKinds := [.data], laidTests := true, laidLooks := .later }
def CrcFarUptoCardSaid : Prop := Claim7.holds Tryd.pinned (.plain (OpenSpec.upto crcFarSpec)) crcFarUptoCard
end Rows
end Go.Proofs.YtljolmidnckciaaDoor
