/-
  DERIVED. GIVEN WITH THE SEED: THE CARDS: each row of YticjodhkmidljaaGreatDoorRows.lean that lists a variable, with what it lists TIED to the program's text (the seventh form; the later family's looks); each row that meets fmt, with fmt's text TOLD by the authors' own Lean function (tested against real Go, not proved from fmt's source: count such statements apart). THE CARD IS WHAT COUNTS. Prove the row's statement (the work); the ties are given (YticjodhkmidljaaGreatDoorTie.lean); close each card by the builder's one call (the guide's Derived/Test/ToyasCard.lean, 'card_holds'). Laid BY PROGRAM, IN A SANDBOX (cutbox-door.mjs). By AI agents, Wed Nov 11 2026. No macro, syntax, notation, axiom, sorry.
-/
import Derived.Test.YticjodhkmidljaaGreatDoorRows
import GoSem.ClaimSeven
namespace Go.Proofs.YticjodhkmidljaaGreatDoor
namespace Rows

/-- THE TIED CARD OF 'palaverlaw17.KeepNil'. -/
def keepNilCard : Claim7 := { stood := { row := keepNilRow, standIns := [], harness := (true, "9c2bdc140dc56e1cb5b4074c0f7a3b8e8fd384812c91d42aa2d5beef89ea2bbc"), looks := true }, kinds := [], alts := [], laidByText := true, laidKinds := [.data, .data, .data, .sentinel, .sentinel], laidTests := true, laidLooks := .later }
def KeepNilCardSaid : Prop := Claim7.holds Tryz.pinned (.plain (OpenSpec.ofChange keepNilSpec)) keepNilCard

/-- THE TIED CARD OF 'palaverlaw17.KeepRises'. -/
def keepRisesCard : Claim7 := { stood := { row := keepRisesRow, standIns := [], harness := (true, "9c2bdc140dc56e1cb5b4074c0f7a3b8e8fd384812c91d42aa2d5beef89ea2bbc"), looks := true }, kinds := [], alts := [], laidByText := true, laidKinds := [.data, .data, .data, .sentinel, .sentinel], laidTests := true, laidLooks := .later }
def KeepRisesCardSaid : Prop := Claim7.holds Tryz.pinned (.plain (OpenSpec.ofChange keepRisesSpec)) keepRisesCard

/-- THE TIED CARD OF 'palaverlaw17.KeepLasts'. -/
def keepLastsCard : Claim7 := { stood := { row := keepLastsRow, standIns := [], harness := (true, "9c2bdc140dc56e1cb5b4074c0f7a3b8e8fd384812c91d42aa2d5beef89ea2bbc"), looks := true }, kinds := [], alts := [], laidByText := true, laidKinds := [.data, .data, .data, .sentinel, .sentinel], laidTests := true, laidLooks := .later }
def KeepLastsCardSaid : Prop := Claim7.holds Tryz.pinned (.plain (OpenSpec.ofChange keepLastsSpec)) keepLastsCard

/-- THE SECOND FORM's CARD OF 'palaverlaw17.KeepNil'. -/
def keepNilUptoCard : Claim7 := { stood := { row := keepNilUptoRow, standIns := [], harness := (true, "9c2bdc140dc56e1cb5b4074c0f7a3b8e8fd384812c91d42aa2d5beef89ea2bbc"), looks := true }, kinds := [], alts := [], laidByText := true, laidKinds := [.data, .data, .data, .sentinel, .sentinel], laidTests := true, laidLooks := .later }
def KeepNilUptoCardSaid : Prop := Claim7.holds Tryz.pinned (.plain (OpenSpec.upto keepNilSpec)) keepNilUptoCard

/-- THE SECOND FORM's CARD OF 'palaverlaw17.KeepRises'. -/
def keepRisesUptoCard : Claim7 := { stood := { row := keepRisesUptoRow, standIns := [], harness := (true, "9c2bdc140dc56e1cb5b4074c0f7a3b8e8fd384812c91d42aa2d5beef89ea2bbc"), looks := true }, kinds := [], alts := [], laidByText := true, laidKinds := [.data, .data, .data, .sentinel, .sentinel], laidTests := true, laidLooks := .later }
def KeepRisesUptoCardSaid : Prop := Claim7.holds Tryz.pinned (.plain (OpenSpec.upto keepRisesSpec)) keepRisesUptoCard

/-- THE SECOND FORM's CARD OF 'palaverlaw17.KeepLasts'. -/
def keepLastsUptoCard : Claim7 := { stood := { row := keepLastsUptoRow, standIns := [], harness := (true, "9c2bdc140dc56e1cb5b4074c0f7a3b8e8fd384812c91d42aa2d5beef89ea2bbc"), looks := true }, kinds := [], alts := [], laidByText := true, laidKinds := [.data, .data, .data, .sentinel, .sentinel], laidTests := true, laidLooks := .later }
def KeepLastsUptoCardSaid : Prop := Claim7.holds Tryz.pinned (.plain (OpenSpec.upto keepLastsSpec)) keepLastsUptoCard
end Rows
end Go.Proofs.YticjodhkmidljaaGreatDoor
