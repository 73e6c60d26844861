/-
  DERIVED. GIVEN WITH THE SEED: THE CARDS: each row of YtogfladmgbldcaaGreatDoorRows.lean that lists a variable, with what it lists TIED to the program's text (the seventh form; the later family's looks); each row that meets fmt, with fmt's text TOLD by the authors' own Lean function (tested against real Go, not proved from fmt's source: count such statements apart). THE CARD IS WHAT COUNTS. Prove the row's statement (the work); the ties are given (YtogfladmgbldcaaGreatDoorTie.lean); close each card by the builder's one call (the guide's Derived/Test/ToyasCard.lean, 'card_holds'). Laid BY PROGRAM, IN A SANDBOX (cutbox-door.mjs). By AI agents, Wed Nov 11 2026. No macro, syntax, notation, axiom, sorry.
-/
import Derived.Test.YtogfladmgbldcaaGreatDoorRows
import GoSem.ClaimSeven
namespace Go.Proofs.YtogfladmgbldcaaGreatDoor
namespace Rows

/-- THE TIED CARD OF 'palaverlaw06.BaseNil'. -/
def baseNilCard : Claim7 := { stood := { row := baseNilRow, standIns := [], harness := (true, "cc07ee152efb09c545cd168dc41033d85e1d2864c9734ad47c24640048f1cd1a"), looks := true }, kinds := [], alts := [], laidByText := true, laidKinds := [.data, .data, .data, .sentinel, .sentinel], laidTests := true, laidLooks := .later }
def BaseNilCardSaid : Prop := Claim7.holds Tryz.pinned (.plain (OpenSpec.ofChange baseNilSpec)) baseNilCard

/-- THE TIED CARD OF 'palaverlaw06.BaseKnown'. -/
def baseKnownCard : Claim7 := { stood := { row := baseKnownRow, standIns := [], harness := (true, "cc07ee152efb09c545cd168dc41033d85e1d2864c9734ad47c24640048f1cd1a"), looks := true }, kinds := [], alts := [], laidByText := true, laidKinds := [.data, .data, .data, .sentinel, .sentinel], laidTests := true, laidLooks := .later }
def BaseKnownCardSaid : Prop := Claim7.holds Tryz.pinned (.plain (OpenSpec.ofChange baseKnownSpec)) baseKnownCard

/-- THE TIED CARD OF 'palaverlaw06.BaseLasts'. -/
def baseLastsCard : Claim7 := { stood := { row := baseLastsRow, standIns := [], harness := (true, "cc07ee152efb09c545cd168dc41033d85e1d2864c9734ad47c24640048f1cd1a"), looks := true }, kinds := [], alts := [], laidByText := true, laidKinds := [.data, .data, .data, .sentinel, .sentinel], laidTests := true, laidLooks := .later }
def BaseLastsCardSaid : Prop := Claim7.holds Tryz.pinned (.plain (OpenSpec.ofChange baseLastsSpec)) baseLastsCard

/-- THE TIED CARD OF 'palaverlaw06.BaseWhole'. -/
def baseWholeCard : Claim7 := { stood := { row := baseWholeRow, standIns := [], harness := (true, "cc07ee152efb09c545cd168dc41033d85e1d2864c9734ad47c24640048f1cd1a"), looks := true }, kinds := [], alts := [], laidByText := true, laidKinds := [.data, .data, .data, .sentinel, .sentinel], laidTests := true, laidLooks := .later }
def BaseWholeCardSaid : Prop := Claim7.holds Tryz.pinned (.plain (OpenSpec.ofChange baseWholeSpec)) baseWholeCard

/-- THE TIED CARD OF 'palaverlaw05.LogNil'. -/
def logNilCard : Claim7 := { stood := { row := logNilRow, standIns := [], harness := (true, "cc07ee152efb09c545cd168dc41033d85e1d2864c9734ad47c24640048f1cd1a"), looks := true }, kinds := [], alts := [], laidByText := true, laidKinds := [.data, .data, .data, .sentinel, .sentinel], laidTests := true, laidLooks := .later }
def LogNilCardSaid : Prop := Claim7.holds Tryz.pinned (.plain (OpenSpec.ofChange logNilSpec)) logNilCard

/-- THE TIED CARD OF 'palaverlaw05.LogKnown'. -/
def logKnownCard : Claim7 := { stood := { row := logKnownRow, standIns := [], harness := (true, "cc07ee152efb09c545cd168dc41033d85e1d2864c9734ad47c24640048f1cd1a"), looks := true }, kinds := [], alts := [], laidByText := true, laidKinds := [.data, .data, .data, .sentinel, .sentinel], laidTests := true, laidLooks := .later }
def LogKnownCardSaid : Prop := Claim7.holds Tryz.pinned (.plain (OpenSpec.ofChange logKnownSpec)) logKnownCard

/-- THE TIED CARD OF 'palaverlaw05.LogLasts'. -/
def logLastsCard : Claim7 := { stood := { row := logLastsRow, standIns := [], harness := (true, "cc07ee152efb09c545cd168dc41033d85e1d2864c9734ad47c24640048f1cd1a"), looks := true }, kinds := [], alts := [], laidByText := true, laidKinds := [.data, .data, .data, .sentinel, .sentinel], laidTests := true, laidLooks := .later }
def LogLastsCardSaid : Prop := Claim7.holds Tryz.pinned (.plain (OpenSpec.ofChange logLastsSpec)) logLastsCard

/-- THE TIED CARD OF 'palaverlaw05.LogRenews'. -/
def logRenewsCard : Claim7 := { stood := { row := logRenewsRow, standIns := [], harness := (true, "cc07ee152efb09c545cd168dc41033d85e1d2864c9734ad47c24640048f1cd1a"), looks := true }, kinds := [], alts := [], laidByText := true, laidKinds := [.data, .data, .data, .sentinel, .sentinel], laidTests := true, laidLooks := .later }
def LogRenewsCardSaid : Prop := Claim7.holds Tryz.pinned (.plain (OpenSpec.ofChange logRenewsSpec)) logRenewsCard

/-- THE TIED CARD OF 'palaverlaw05.LogBits'. -/
def logBitsCard : Claim7 := { stood := { row := logBitsRow, standIns := [], harness := (true, "cc07ee152efb09c545cd168dc41033d85e1d2864c9734ad47c24640048f1cd1a"), looks := true }, kinds := [], alts := [], laidByText := true, laidKinds := [.data, .data, .data, .sentinel, .sentinel], laidTests := true, laidLooks := .later }
def LogBitsCardSaid : Prop := Claim7.holds Tryz.pinned (.plain (OpenSpec.ofChange logBitsSpec)) logBitsCard

/-- THE SECOND FORM's CARD OF 'palaverlaw06.BaseNil'. -/
def baseNilUptoCard : Claim7 := { stood := { row := baseNilUptoRow, standIns := [], harness := (true, "cc07ee152efb09c545cd168dc41033d85e1d2864c9734ad47c24640048f1cd1a"), looks := true }, kinds := [], alts := [], laidByText := true, laidKinds := [.data, .data, .data, .sentinel, .sentinel], laidTests := true, laidLooks := .later }
def BaseNilUptoCardSaid : Prop := Claim7.holds Tryz.pinned (.plain (OpenSpec.upto baseNilSpec)) baseNilUptoCard

/-- THE SECOND FORM's CARD OF 'palaverlaw06.BaseKnown'. -/
def baseKnownUptoCard : Claim7 := { stood := { row := baseKnownUptoRow, standIns := [], harness := (true, "cc07ee152efb09c545cd168dc41033d85e1d2864c9734ad47c24640048f1cd1a"), looks := true }, kinds := [], alts := [], laidByText := true, laidKinds := [.data, .data, .data, .sentinel, .sentinel], laidTests := true, laidLooks := .later }
def BaseKnownUptoCardSaid : Prop := Claim7.holds Tryz.pinned (.plain (OpenSpec.upto baseKnownSpec)) baseKnownUptoCard

/-- THE SECOND FORM's CARD OF 'palaverlaw06.BaseLasts'. -/
def baseLastsUptoCard : Claim7 := { stood := { row := baseLastsUptoRow, standIns := [], harness := (true, "cc07ee152efb09c545cd168dc41033d85e1d2864c9734ad47c24640048f1cd1a"), looks := true }, kinds := [], alts := [], laidByText := true, laidKinds := [.data, .data, .data, .sentinel, .sentinel], laidTests := true, laidLooks := .later }
def BaseLastsUptoCardSaid : Prop := Claim7.holds Tryz.pinned (.plain (OpenSpec.upto baseLastsSpec)) baseLastsUptoCard

/-- THE SECOND FORM's CARD OF 'palaverlaw06.BaseWhole'. -/
def baseWholeUptoCard : Claim7 := { stood := { row := baseWholeUptoRow, standIns := [], harness := (true, "cc07ee152efb09c545cd168dc41033d85e1d2864c9734ad47c24640048f1cd1a"), looks := true }, kinds := [], alts := [], laidByText := true, laidKinds := [.data, .data, .data, .sentinel, .sentinel], laidTests := true, laidLooks := .later }
def BaseWholeUptoCardSaid : Prop := Claim7.holds Tryz.pinned (.plain (OpenSpec.upto baseWholeSpec)) baseWholeUptoCard

/-- THE SECOND FORM's CARD OF 'palaverlaw05.LogNil'. -/
def logNilUptoCard : Claim7 := { stood := { row := logNilUptoRow, standIns := [], harness := (true, "cc07ee152efb09c545cd168dc41033d85e1d2864c9734ad47c24640048f1cd1a"), looks := true }, kinds := [], alts := [], laidByText := true, laidKinds := [.data, .data, .data, .sentinel, .sentinel], laidTests := true, laidLooks := .later }
def LogNilUptoCardSaid : Prop := Claim7.holds Tryz.pinned (.plain (OpenSpec.upto logNilSpec)) logNilUptoCard

/-- THE SECOND FORM's CARD OF 'palaverlaw05.LogKnown'. -/
def logKnownUptoCard : Claim7 := { stood := { row := logKnownUptoRow, standIns := [], harness := (true, "cc07ee152efb09c545cd168dc41033d85e1d2864c9734ad47c24640048f1cd1a"), looks := true }, kinds := [], alts := [], laidByText := true, laidKinds := [.data, .data, .data, .sentinel, .sentinel], laidTests := true, laidLooks := .later }
def LogKnownUptoCardSaid : Prop := Claim7.holds Tryz.pinned (.plain (OpenSpec.upto logKnownSpec)) logKnownUptoCard

/-- THE SECOND FORM's CARD OF 'palaverlaw05.LogLasts'. -/
def logLastsUptoCard : Claim7 := { stood := { row := logLastsUptoRow, standIns := [], harness := (true, "cc07ee152efb09c545cd168dc41033d85e1d2864c9734ad47c24640048f1cd1a"), looks := true }, kinds := [], alts := [], laidByText := true, laidKinds := [.data, .data, .data, .sentinel, .sentinel], laidTests := true, laidLooks := .later }
def LogLastsUptoCardSaid : Prop := Claim7.holds Tryz.pinned (.plain (OpenSpec.upto logLastsSpec)) logLastsUptoCard

/-- THE SECOND FORM's CARD OF 'palaverlaw05.LogRenews'. -/
def logRenewsUptoCard : Claim7 := { stood := { row := logRenewsUptoRow, standIns := [], harness := (true, "cc07ee152efb09c545cd168dc41033d85e1d2864c9734ad47c24640048f1cd1a"), looks := true }, kinds := [], alts := [], laidByText := true, laidKinds := [.data, .data, .data, .sentinel, .sentinel], laidTests := true, laidLooks := .later }
def LogRenewsUptoCardSaid : Prop := Claim7.holds Tryz.pinned (.plain (OpenSpec.upto logRenewsSpec)) logRenewsUptoCard

/-- THE SECOND FORM's CARD OF 'palaverlaw05.LogBits'. -/
def logBitsUptoCard : Claim7 := { stood := { row := logBitsUptoRow, standIns := [], harness := (true, "cc07ee152efb09c545cd168dc41033d85e1d2864c9734ad47c24640048f1cd1a"), looks := true }, kinds := [], alts := [], laidByText := true, laidKinds := [.data, .data, .data, .sentinel, .sentinel], laidTests := true, laidLooks := .later }
def LogBitsUptoCardSaid : Prop := Claim7.holds Tryz.pinned (.plain (OpenSpec.upto logBitsSpec)) logBitsUptoCard
end Rows
end Go.Proofs.YtogfladmgbldcaaGreatDoor
