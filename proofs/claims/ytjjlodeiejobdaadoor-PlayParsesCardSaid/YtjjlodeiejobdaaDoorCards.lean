/-
  DERIVED. GIVEN WITH THE SEED: THE CARDS: each row of YtjjlodeiejobdaaDoorRows.lean that lists a variable, with what it lists TIED to the program's text (the seventh form; the later family's looks); each row that meets fmt, with fmt's text TOLD by the authors' own Lean function (tested against real Go, not proved from fmt's source: count such statements apart). THE CARD IS WHAT COUNTS. Prove the row's statement (the work); the ties are given (YtjjlodeiejobdaaDoorTie.lean); close each card by the builder's one call (the guide's Derived/Test/ToyasCard.lean, 'card_holds'). Laid BY PROGRAM, IN A SANDBOX (cutbox-door.mjs). By AI agents, Wed Nov 11 2026. No macro, syntax, notation, axiom, sorry.
-/
import Derived.Test.YtjjlodeiejobdaaDoorRows
import GoSem.ClaimSeven
namespace Go.Proofs.YtjjlodeiejobdaaDoor
namespace Rows

/-- THE TIED CARD OF 'palaverlaw31.PlayWrites'. -/
def playWritesCard : Claim7 := { stood := { row := playWritesRow, standIns := [], harness := (true, "d514ba6f9b549f3259e1fde8434ae9e4d5fa4ad742cd29549ca2c61594fd44f4"), looks := true }, kinds := [], alts := [], laidByText := true, laidKinds := [.data, .data, .data, .data, .sentinel, .sentinel, .pinned], laidTests := true, laidLooks := .later }
def PlayWritesCardSaid : Prop := Claim7.holds Tryd.pinned (.plain (OpenSpec.ofChange playWritesSpec)) playWritesCard

/-- THE TIED CARD OF 'palaverlaw31.PlayParses'. -/
def playParsesCard : Claim7 := { stood := { row := playParsesRow, standIns := [], harness := (true, "d514ba6f9b549f3259e1fde8434ae9e4d5fa4ad742cd29549ca2c61594fd44f4"), looks := true }, kinds := [], alts := [], laidByText := true, laidKinds := [.data, .data, .data, .data, .sentinel, .sentinel, .pinned], laidTests := true, laidLooks := .later }
def PlayParsesCardSaid : Prop := Claim7.holds Tryd.pinned (.plain (OpenSpec.ofChange playParsesSpec)) playParsesCard

/-- THE TIED CARD OF 'palaverlaw31.PlayBack'. -/
def playBackCard : Claim7 := { stood := { row := playBackRow, standIns := [], harness := (true, "d514ba6f9b549f3259e1fde8434ae9e4d5fa4ad742cd29549ca2c61594fd44f4"), looks := true }, kinds := [], alts := [], laidByText := true, laidKinds := [.data, .data, .data, .data, .sentinel, .sentinel, .pinned], laidTests := true, laidLooks := .later }
def PlayBackCardSaid : Prop := Claim7.holds Tryd.pinned (.plain (OpenSpec.ofChange playBackSpec)) playBackCard

/-- THE TIED CARD OF 'palaverlaw31.PlayLines'. -/
def playLinesCard : Claim7 := { stood := { row := playLinesRow, standIns := [], harness := (true, "d514ba6f9b549f3259e1fde8434ae9e4d5fa4ad742cd29549ca2c61594fd44f4"), looks := true }, kinds := [], alts := [], laidByText := true, laidKinds := [.data, .data, .data, .data, .sentinel, .sentinel, .pinned], laidTests := true, laidLooks := .later }
def PlayLinesCardSaid : Prop := Claim7.holds Tryd.pinned (.plain (OpenSpec.ofChange playLinesSpec)) playLinesCard

/-- THE SECOND FORM's CARD OF 'palaverlaw31.PlayWrites'. -/
def playWritesUptoCard : Claim7 := { stood := { row := playWritesUptoRow, standIns := [], harness := (true, "d514ba6f9b549f3259e1fde8434ae9e4d5fa4ad742cd29549ca2c61594fd44f4"), looks := true }, kinds := [], alts := [], laidByText := true, laidKinds := [.data, .data, .data, .data, .sentinel, .sentinel, .pinned], laidTests := true, laidLooks := .later }
def PlayWritesUptoCardSaid : Prop := Claim7.holds Tryd.pinned (.plain (OpenSpec.upto playWritesSpec)) playWritesUptoCard

/-- THE SECOND FORM's CARD OF 'palaverlaw31.PlayParses'. -/
def playParsesUptoCard : Claim7 := { stood := { row := playParsesUptoRow, standIns := [], harness := (true, "d514ba6f9b549f3259e1fde8434ae9e4d5fa4ad742cd29549ca2c61594fd44f4"), looks := true }, kinds := [], alts := [], laidByText := true, laidKinds := [.data, .data, .data, .data, .sentinel, .sentinel, .pinned], laidTests := true, laidLooks := .later }
def PlayParsesUptoCardSaid : Prop := Claim7.holds Tryd.pinned (.plain (OpenSpec.upto playParsesSpec)) playParsesUptoCard

/-- THE SECOND FORM's CARD OF 'palaverlaw31.PlayBack'. -/
def playBackUptoCard : Claim7 := { stood := { row := playBackUptoRow, standIns := [], harness := (true, "d514ba6f9b549f3259e1fde8434ae9e4d5fa4ad742cd29549ca2c61594fd44f4"), looks := true }, kinds := [], alts := [], laidByText := true, laidKinds := [.data, .data, .data, .data, .sentinel, .sentinel, .pinned], laidTests := true, laidLooks := .later }
def PlayBackUptoCardSaid : Prop := Claim7.holds Tryd.pinned (.plain (OpenSpec.upto playBackSpec)) playBackUptoCard

/-- THE SECOND FORM's CARD OF 'palaverlaw31.PlayLines'. -/
def playLinesUptoCard : Claim7 := { stood := { row := playLinesUptoRow, standIns := [], harness := (true, "d514ba6f9b549f3259e1fde8434ae9e4d5fa4ad742cd29549ca2c61594fd44f4"), looks := true }, kinds := [], alts := [], laidByText := true, laidKinds := [.data, .data, .data, .data, .sentinel, .sentinel, .pinned], laidTests := true, laidLooks := .later }
def PlayLinesUptoCardSaid : Prop := Claim7.holds Tryd.pinned (.plain (OpenSpec.upto playLinesSpec)) playLinesUptoCard
end Rows
end Go.Proofs.YtjjlodeiejobdaaDoor
