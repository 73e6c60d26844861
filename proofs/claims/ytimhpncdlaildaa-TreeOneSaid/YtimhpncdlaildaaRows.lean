/-
  No cell of these rows narrows 'for every input' (looked for: loops, veiled, ifaces, maps, wideKeys, modest, calm, conditions, laid).
  DERIVED. THE GIVEN ROWS OF THIS SEAT. 13 by the template 'for every input the law returns true; each argument reads behind the call as it read before'; 0 by the template 'total and deterministic' (their statements: YtimhpncdlaildaaTotals.lean).
  GIVEN WITH THE SEED: the statements are not yours to turn. If you find one false, say at which input.
  Laid BY PROGRAM, IN A SANDBOX (cutbox-rows.mjs): the forced cells as the released guide's own fill.sh prints them over the translation 324f5bddc5872d71… (all of the seat's roots in one cut). By AI agents, Wed Nov 11 2026. No macro, syntax, notation, axiom, sorry.
-/
import Derived.Test.YtimhpncdlaildaaChecked
import GoSem.Claim
import GoSem.ClaimJoined
import GoSem.ClaimMapViews
import Derived.JoinedTies
import Derived.KernelRfl
namespace Go.Proofs.Ytimhpncdlaildaa
/- THE CELL 'sum', in the pinned program and in every row, IS THE sha256 OF THE DUMP (.gsa) THAT YtimhpncdlaildaaProg.lean LOADS. Nothing in Lean hashes anything: it is a label: what it is worth is what the hold of that sum in a sandbox is worth. -/
noncomputable def Try.pinned : Pinned := { name := "ytimhpncdlaildaa", sum := "324f5bddc5872d71842fb37f0372beffe201f90a11c78367edca98bb07db9180", checked := Try.checked }
namespace Rows
def none {H : Type} : Left H := { results := [], args := [] }

/-- 'palaverlaw16.SlotsRows': WHATEVER THE INPUT: true; the input reads as it did. -/
def slotsRowsSpec : ChangeSpec := { name := "slotsRows", fn := fun _ => fun
  | [d1, d2] => { results := [.lit (.bool true)], args := [d1, d2] }
  | _ => none }
def slotsRowsRow : OpenClaim := { program := "ytimhpncdlaildaa", sum := "324f5bddc5872d71842fb37f0372beffe201f90a11c78367edca98bb07db9180", func := "palaver/palaverlaw16.SlotsRows", spec := "slotsRows", unfollowed := true, recurses := true, apart := false }
def SlotsRowsSaid : Prop := slotsRowsRow.holds Try.pinned (OpenSpec.ofChange slotsRowsSpec)

/-- ITS FALSE NEIGHBOUR: 'it returns false'. Refute it at one input. -/
def slotsRowsWrong : ChangeSpec := { name := "slotsRows", fn := fun _ => fun
  | [d1, d2] => { results := [.lit (.bool false)], args := [d1, d2] }
  | _ => none }
def SlotsRowsWrongFalsely : Prop := slotsRowsRow.holds Try.pinned (OpenSpec.ofChange slotsRowsWrong)

/-- 'palaverlaw16.SlotsOnce': WHATEVER THE INPUT: true; the input reads as it did. -/
def slotsOnceSpec : ChangeSpec := { name := "slotsOnce", fn := fun _ => fun
  | [d1, d2] => { results := [.lit (.bool true)], args := [d1, d2] }
  | _ => none }
def slotsOnceRow : OpenClaim := { program := "ytimhpncdlaildaa", sum := "324f5bddc5872d71842fb37f0372beffe201f90a11c78367edca98bb07db9180", func := "palaver/palaverlaw16.SlotsOnce", spec := "slotsOnce", unfollowed := true, recurses := true, apart := false }
def SlotsOnceSaid : Prop := slotsOnceRow.holds Try.pinned (OpenSpec.ofChange slotsOnceSpec)

/-- ITS FALSE NEIGHBOUR: 'it returns false'. Refute it at one input. -/
def slotsOnceWrong : ChangeSpec := { name := "slotsOnce", fn := fun _ => fun
  | [d1, d2] => { results := [.lit (.bool false)], args := [d1, d2] }
  | _ => none }
def SlotsOnceWrongFalsely : Prop := slotsOnceRow.holds Try.pinned (OpenSpec.ofChange slotsOnceWrong)

/-- 'palaverlaw16.SlotsPlay': WHATEVER THE INPUT: true; the input reads as it did. -/
def slotsPlaySpec : ChangeSpec := { name := "slotsPlay", fn := fun _ => fun
  | [d1, d2, d3, d4] => { results := [.lit (.bool true)], args := [d1, d2, d3, d4] }
  | _ => none }
def slotsPlayRow : OpenClaim := { program := "ytimhpncdlaildaa", sum := "324f5bddc5872d71842fb37f0372beffe201f90a11c78367edca98bb07db9180", func := "palaver/palaverlaw16.SlotsPlay", spec := "slotsPlay", unfollowed := true, recurses := true, apart := false }
def SlotsPlaySaid : Prop := slotsPlayRow.holds Try.pinned (OpenSpec.ofChange slotsPlaySpec)

/-- ITS FALSE NEIGHBOUR: 'it returns false'. Refute it at one input. -/
def slotsPlayWrong : ChangeSpec := { name := "slotsPlay", fn := fun _ => fun
  | [d1, d2, d3, d4] => { results := [.lit (.bool false)], args := [d1, d2, d3, d4] }
  | _ => none }
def SlotsPlayWrongFalsely : Prop := slotsPlayRow.holds Try.pinned (OpenSpec.ofChange slotsPlayWrong)

/-- 'palaverlaw16.SlotsNil': WHATEVER THE INPUT: true; the input reads as it did. -/
def slotsNilSpec : ChangeSpec := { name := "slotsNil", fn := fun _ => fun
  | [d1, d2, d3] => { results := [.lit (.bool true)], args := [d1, d2, d3] }
  | _ => none }
def slotsNilRow : OpenClaim := { program := "ytimhpncdlaildaa", sum := "324f5bddc5872d71842fb37f0372beffe201f90a11c78367edca98bb07db9180", func := "palaver/palaverlaw16.SlotsNil", spec := "slotsNil", unfollowed := true, recurses := true, apart := false }
def SlotsNilSaid : Prop := slotsNilRow.holds Try.pinned (OpenSpec.ofChange slotsNilSpec)

/-- ITS FALSE NEIGHBOUR: 'it returns false'. Refute it at one input. -/
def slotsNilWrong : ChangeSpec := { name := "slotsNil", fn := fun _ => fun
  | [d1, d2, d3] => { results := [.lit (.bool false)], args := [d1, d2, d3] }
  | _ => none }
def SlotsNilWrongFalsely : Prop := slotsNilRow.holds Try.pinned (OpenSpec.ofChange slotsNilWrong)

/-- 'palaverlaw10.TreePlays': WHATEVER THE INPUT: true; the input reads as it did. -/
def treePlaysSpec : ChangeSpec := { name := "treePlays", fn := fun _ => fun
  | [d] => { results := [.lit (.bool true)], args := [d] }
  | _ => none }
def treePlaysRow : OpenClaim := { program := "ytimhpncdlaildaa", sum := "324f5bddc5872d71842fb37f0372beffe201f90a11c78367edca98bb07db9180", func := "palaver/palaverlaw10.TreePlays", spec := "treePlays", unfollowed := true, recurses := true, apart := false }
def TreePlaysSaid : Prop := treePlaysRow.holds Try.pinned (OpenSpec.ofChange treePlaysSpec)

/-- ITS FALSE NEIGHBOUR: 'it returns false'. Refute it at one input. -/
def treePlaysWrong : ChangeSpec := { name := "treePlays", fn := fun _ => fun
  | [d] => { results := [.lit (.bool false)], args := [d] }
  | _ => none }
def TreePlaysWrongFalsely : Prop := treePlaysRow.holds Try.pinned (OpenSpec.ofChange treePlaysWrong)

/-- 'palaverlaw10.TreeShares': WHATEVER THE INPUT: true; the input reads as it did. -/
def treeSharesSpec : ChangeSpec := { name := "treeShares", fn := fun _ => fun
  | [d] => { results := [.lit (.bool true)], args := [d] }
  | _ => none }
def treeSharesRow : OpenClaim := { program := "ytimhpncdlaildaa", sum := "324f5bddc5872d71842fb37f0372beffe201f90a11c78367edca98bb07db9180", func := "palaver/palaverlaw10.TreeShares", spec := "treeShares", recurses := true, apart := false }
def TreeSharesSaid : Prop := treeSharesRow.holds Try.pinned (OpenSpec.ofChange treeSharesSpec)

/-- ITS FALSE NEIGHBOUR: 'it returns false'. Refute it at one input. -/
def treeSharesWrong : ChangeSpec := { name := "treeShares", fn := fun _ => fun
  | [d] => { results := [.lit (.bool false)], args := [d] }
  | _ => none }
def TreeSharesWrongFalsely : Prop := treeSharesRow.holds Try.pinned (OpenSpec.ofChange treeSharesWrong)

/-- 'palaverlaw10.TreeDiffs': WHATEVER THE INPUT: true; the input reads as it did. -/
def treeDiffsSpec : ChangeSpec := { name := "treeDiffs", fn := fun _ => fun
  | [d1, d2, d3] => { results := [.lit (.bool true)], args := [d1, d2, d3] }
  | _ => none }
def treeDiffsRow : OpenClaim := { program := "ytimhpncdlaildaa", sum := "324f5bddc5872d71842fb37f0372beffe201f90a11c78367edca98bb07db9180", func := "palaver/palaverlaw10.TreeDiffs", spec := "treeDiffs", unfollowed := true, recurses := true, apart := false }
def TreeDiffsSaid : Prop := treeDiffsRow.holds Try.pinned (OpenSpec.ofChange treeDiffsSpec)

/-- ITS FALSE NEIGHBOUR: 'it returns false'. Refute it at one input. -/
def treeDiffsWrong : ChangeSpec := { name := "treeDiffs", fn := fun _ => fun
  | [d1, d2, d3] => { results := [.lit (.bool false)], args := [d1, d2, d3] }
  | _ => none }
def TreeDiffsWrongFalsely : Prop := treeDiffsRow.holds Try.pinned (OpenSpec.ofChange treeDiffsWrong)

/-- 'palaverlaw10.TreeOne': WHATEVER THE INPUT: true; the input reads as it did. -/
def treeOneSpec : ChangeSpec := { name := "treeOne", fn := fun _ => fun
  | [d1, d2, d3] => { results := [.lit (.bool true)], args := [d1, d2, d3] }
  | _ => none }
def treeOneRow : OpenClaim := { program := "ytimhpncdlaildaa", sum := "324f5bddc5872d71842fb37f0372beffe201f90a11c78367edca98bb07db9180", func := "palaver/palaverlaw10.TreeOne", spec := "treeOne", unfollowed := true, recurses := true, apart := false }
def TreeOneSaid : Prop := treeOneRow.holds Try.pinned (OpenSpec.ofChange treeOneSpec)

/-- ITS FALSE NEIGHBOUR: 'it returns false'. Refute it at one input. -/
def treeOneWrong : ChangeSpec := { name := "treeOne", fn := fun _ => fun
  | [d1, d2, d3] => { results := [.lit (.bool false)], args := [d1, d2, d3] }
  | _ => none }
def TreeOneWrongFalsely : Prop := treeOneRow.holds Try.pinned (OpenSpec.ofChange treeOneWrong)

/-- 'palaverlaw10.TreeLeaves': WHATEVER THE INPUT: true; the input reads as it did. -/
def treeLeavesSpec : ChangeSpec := { name := "treeLeaves", fn := fun _ => fun
  | [d1, d2, d3] => { results := [.lit (.bool true)], args := [d1, d2, d3] }
  | _ => none }
def treeLeavesRow : OpenClaim := { program := "ytimhpncdlaildaa", sum := "324f5bddc5872d71842fb37f0372beffe201f90a11c78367edca98bb07db9180", func := "palaver/palaverlaw10.TreeLeaves", spec := "treeLeaves", unfollowed := true, recurses := true, apart := false }
def TreeLeavesSaid : Prop := treeLeavesRow.holds Try.pinned (OpenSpec.ofChange treeLeavesSpec)

/-- ITS FALSE NEIGHBOUR: 'it returns false'. Refute it at one input. -/
def treeLeavesWrong : ChangeSpec := { name := "treeLeaves", fn := fun _ => fun
  | [d1, d2, d3] => { results := [.lit (.bool false)], args := [d1, d2, d3] }
  | _ => none }
def TreeLeavesWrongFalsely : Prop := treeLeavesRow.holds Try.pinned (OpenSpec.ofChange treeLeavesWrong)

/-- 'palaverlaw11.KvFull': WHATEVER THE INPUT: true; the input reads as it did. -/
def kvFullSpec : ChangeSpec := { name := "kvFull", fn := fun _ => fun
  | [] => { results := [.lit (.bool true)], args := [] }
  | _ => none }
def kvFullRow : OpenClaim := { program := "ytimhpncdlaildaa", sum := "324f5bddc5872d71842fb37f0372beffe201f90a11c78367edca98bb07db9180", func := "palaver/palaverlaw11.KvFull", spec := "kvFull", unfollowed := true, recurses := true, apart := false }
def KvFullSaid : Prop := kvFullRow.holds Try.pinned (OpenSpec.ofChange kvFullSpec)

/-- ITS FALSE NEIGHBOUR: 'it returns false'. Refute it at one input. -/
def kvFullWrong : ChangeSpec := { name := "kvFull", fn := fun _ => fun
  | [] => { results := [.lit (.bool false)], args := [] }
  | _ => none }
def KvFullWrongFalsely : Prop := kvFullRow.holds Try.pinned (OpenSpec.ofChange kvFullWrong)

/-- 'palaverlaw11.KvStays': WHATEVER THE INPUT: true; the input reads as it did. -/
def kvStaysSpec : ChangeSpec := { name := "kvStays", fn := fun _ => fun
  | [d] => { results := [.lit (.bool true)], args := [d] }
  | _ => none }
def kvStaysRow : OpenClaim := { program := "ytimhpncdlaildaa", sum := "324f5bddc5872d71842fb37f0372beffe201f90a11c78367edca98bb07db9180", func := "palaver/palaverlaw11.KvStays", spec := "kvStays", unfollowed := true, recurses := true, apart := false }
def KvStaysSaid : Prop := kvStaysRow.holds Try.pinned (OpenSpec.ofChange kvStaysSpec)

/-- ITS FALSE NEIGHBOUR: 'it returns false'. Refute it at one input. -/
def kvStaysWrong : ChangeSpec := { name := "kvStays", fn := fun _ => fun
  | [d] => { results := [.lit (.bool false)], args := [d] }
  | _ => none }
def KvStaysWrongFalsely : Prop := kvStaysRow.holds Try.pinned (OpenSpec.ofChange kvStaysWrong)

/-- 'palaverlaw11.KvPlays': WHATEVER THE INPUT: true; the input reads as it did. -/
def kvPlaysSpec : ChangeSpec := { name := "kvPlays", fn := fun _ => fun
  | [d1, d2] => { results := [.lit (.bool true)], args := [d1, d2] }
  | _ => none }
def kvPlaysRow : OpenClaim := { program := "ytimhpncdlaildaa", sum := "324f5bddc5872d71842fb37f0372beffe201f90a11c78367edca98bb07db9180", func := "palaver/palaverlaw11.KvPlays", spec := "kvPlays", unfollowed := true, recurses := true, apart := false }
def KvPlaysSaid : Prop := kvPlaysRow.holds Try.pinned (OpenSpec.ofChange kvPlaysSpec)

/-- ITS FALSE NEIGHBOUR: 'it returns false'. Refute it at one input. -/
def kvPlaysWrong : ChangeSpec := { name := "kvPlays", fn := fun _ => fun
  | [d1, d2] => { results := [.lit (.bool false)], args := [d1, d2] }
  | _ => none }
def KvPlaysWrongFalsely : Prop := kvPlaysRow.holds Try.pinned (OpenSpec.ofChange kvPlaysWrong)

/-- 'palaverlaw11.KvApart': WHATEVER THE INPUT: true; the input reads as it did. -/
def kvApartSpec : ChangeSpec := { name := "kvApart", fn := fun _ => fun
  | [d1, d2, d3] => { results := [.lit (.bool true)], args := [d1, d2, d3] }
  | _ => none }
def kvApartRow : OpenClaim := { program := "ytimhpncdlaildaa", sum := "324f5bddc5872d71842fb37f0372beffe201f90a11c78367edca98bb07db9180", func := "palaver/palaverlaw11.KvApart", spec := "kvApart", unfollowed := true, recurses := true, apart := false }
def KvApartSaid : Prop := kvApartRow.holds Try.pinned (OpenSpec.ofChange kvApartSpec)

/-- ITS FALSE NEIGHBOUR: 'it returns false'. Refute it at one input. -/
def kvApartWrong : ChangeSpec := { name := "kvApart", fn := fun _ => fun
  | [d1, d2, d3] => { results := [.lit (.bool false)], args := [d1, d2, d3] }
  | _ => none }
def KvApartWrongFalsely : Prop := kvApartRow.holds Try.pinned (OpenSpec.ofChange kvApartWrong)

/- THE SECOND FORM. 'bulk': how many values and letters a reading holds, each counted each time it is reached (what is shared counts as often as it is met; a slice's spare places count too). A statement '..UptoSaid' is the law's where the arguments, and the package variables that the reading takes, are together of bulk at most 1048576: NARROWER than '..Said'. Prove '..Said' where nothing that the law and all that it calls make is longer than what came in: it says more and counts as full. Else prove '..UptoSaid'. A law counts once. -/
mutual
def uptoBulk {H : Type} : DataW H → Nat
  | .lit (.string bytes) => bytes.length + 1
  | .lit _ => 1
  | .nil => 1
  | .ptr d => uptoBulk d + 1
  | .slice elems spare => uptoBulkAll elems + uptoBulkAll spare + 1
  | .agg parts => uptoBulkAll parts + 1
  | .iface _ d => uptoBulk d + 1
  | .map entries => uptoBulkEntries entries + 1
  | .held _ => 1
def uptoBulkAll {H : Type} : List (DataW H) → Nat
  | [] => 0
  | d :: r => uptoBulk d + uptoBulkAll r
def uptoBulkEntries {H : Type} : List (Lit × DataW H) → Nat
  | [] => 0
  | x :: r => uptoBulkEntry x + uptoBulkEntries r
def uptoBulkEntry {H : Type} : Lit × DataW H → Nat
  | (.string bytes, d) => bytes.length + uptoBulk d + 1
  | (_, d) => uptoBulk d + 1
 end
def uptoSmall : (H : Type) → List (DataW H) → Bool := fun _ ds => decide (uptoBulkAll ds ≤ 1048576)
def OpenSpec.upto (s : _root_.Go.ChangeSpec) : _root_.Go.OpenSpec := { _root_.Go.OpenSpec.ofChange s with cond := some uptoSmall }

/-- 'palaverlaw16.SlotsRows', WHERE WHAT IT READS IS OF BULK AT MOST 1048576: true; the input reads as it did. -/
def slotsRowsUptoRow : OpenClaim := { program := "ytimhpncdlaildaa", sum := "324f5bddc5872d71842fb37f0372beffe201f90a11c78367edca98bb07db9180", func := "palaver/palaverlaw16.SlotsRows", spec := "slotsRows", unfollowed := true, recurses := true, apart := false, narrowed := true }
def SlotsRowsUptoSaid : Prop := slotsRowsUptoRow.holds Try.pinned (OpenSpec.upto slotsRowsSpec)

/-- 'palaverlaw16.SlotsOnce', WHERE WHAT IT READS IS OF BULK AT MOST 1048576: true; the input reads as it did. -/
def slotsOnceUptoRow : OpenClaim := { program := "ytimhpncdlaildaa", sum := "324f5bddc5872d71842fb37f0372beffe201f90a11c78367edca98bb07db9180", func := "palaver/palaverlaw16.SlotsOnce", spec := "slotsOnce", unfollowed := true, recurses := true, apart := false, narrowed := true }
def SlotsOnceUptoSaid : Prop := slotsOnceUptoRow.holds Try.pinned (OpenSpec.upto slotsOnceSpec)

/-- 'palaverlaw16.SlotsPlay', WHERE WHAT IT READS IS OF BULK AT MOST 1048576: true; the input reads as it did. -/
def slotsPlayUptoRow : OpenClaim := { program := "ytimhpncdlaildaa", sum := "324f5bddc5872d71842fb37f0372beffe201f90a11c78367edca98bb07db9180", func := "palaver/palaverlaw16.SlotsPlay", spec := "slotsPlay", unfollowed := true, recurses := true, apart := false, narrowed := true }
def SlotsPlayUptoSaid : Prop := slotsPlayUptoRow.holds Try.pinned (OpenSpec.upto slotsPlaySpec)

/-- 'palaverlaw16.SlotsNil', WHERE WHAT IT READS IS OF BULK AT MOST 1048576: true; the input reads as it did. -/
def slotsNilUptoRow : OpenClaim := { program := "ytimhpncdlaildaa", sum := "324f5bddc5872d71842fb37f0372beffe201f90a11c78367edca98bb07db9180", func := "palaver/palaverlaw16.SlotsNil", spec := "slotsNil", unfollowed := true, recurses := true, apart := false, narrowed := true }
def SlotsNilUptoSaid : Prop := slotsNilUptoRow.holds Try.pinned (OpenSpec.upto slotsNilSpec)

/-- 'palaverlaw10.TreePlays', WHERE WHAT IT READS IS OF BULK AT MOST 1048576: true; the input reads as it did. -/
def treePlaysUptoRow : OpenClaim := { program := "ytimhpncdlaildaa", sum := "324f5bddc5872d71842fb37f0372beffe201f90a11c78367edca98bb07db9180", func := "palaver/palaverlaw10.TreePlays", spec := "treePlays", unfollowed := true, recurses := true, apart := false, narrowed := true }
def TreePlaysUptoSaid : Prop := treePlaysUptoRow.holds Try.pinned (OpenSpec.upto treePlaysSpec)

/-- 'palaverlaw10.TreeShares', WHERE WHAT IT READS IS OF BULK AT MOST 1048576: true; the input reads as it did. -/
def treeSharesUptoRow : OpenClaim := { program := "ytimhpncdlaildaa", sum := "324f5bddc5872d71842fb37f0372beffe201f90a11c78367edca98bb07db9180", func := "palaver/palaverlaw10.TreeShares", spec := "treeShares", recurses := true, apart := false, narrowed := true }
def TreeSharesUptoSaid : Prop := treeSharesUptoRow.holds Try.pinned (OpenSpec.upto treeSharesSpec)

/-- 'palaverlaw10.TreeDiffs', WHERE WHAT IT READS IS OF BULK AT MOST 1048576: true; the input reads as it did. -/
def treeDiffsUptoRow : OpenClaim := { program := "ytimhpncdlaildaa", sum := "324f5bddc5872d71842fb37f0372beffe201f90a11c78367edca98bb07db9180", func := "palaver/palaverlaw10.TreeDiffs", spec := "treeDiffs", unfollowed := true, recurses := true, apart := false, narrowed := true }
def TreeDiffsUptoSaid : Prop := treeDiffsUptoRow.holds Try.pinned (OpenSpec.upto treeDiffsSpec)

/-- 'palaverlaw10.TreeOne', WHERE WHAT IT READS IS OF BULK AT MOST 1048576: true; the input reads as it did. -/
def treeOneUptoRow : OpenClaim := { program := "ytimhpncdlaildaa", sum := "324f5bddc5872d71842fb37f0372beffe201f90a11c78367edca98bb07db9180", func := "palaver/palaverlaw10.TreeOne", spec := "treeOne", unfollowed := true, recurses := true, apart := false, narrowed := true }
def TreeOneUptoSaid : Prop := treeOneUptoRow.holds Try.pinned (OpenSpec.upto treeOneSpec)

/-- 'palaverlaw10.TreeLeaves', WHERE WHAT IT READS IS OF BULK AT MOST 1048576: true; the input reads as it did. -/
def treeLeavesUptoRow : OpenClaim := { program := "ytimhpncdlaildaa", sum := "324f5bddc5872d71842fb37f0372beffe201f90a11c78367edca98bb07db9180", func := "palaver/palaverlaw10.TreeLeaves", spec := "treeLeaves", unfollowed := true, recurses := true, apart := false, narrowed := true }
def TreeLeavesUptoSaid : Prop := treeLeavesUptoRow.holds Try.pinned (OpenSpec.upto treeLeavesSpec)

/-- 'palaverlaw11.KvFull', WHERE WHAT IT READS IS OF BULK AT MOST 1048576: true; the input reads as it did. -/
def kvFullUptoRow : OpenClaim := { program := "ytimhpncdlaildaa", sum := "324f5bddc5872d71842fb37f0372beffe201f90a11c78367edca98bb07db9180", func := "palaver/palaverlaw11.KvFull", spec := "kvFull", unfollowed := true, recurses := true, apart := false, narrowed := true }
def KvFullUptoSaid : Prop := kvFullUptoRow.holds Try.pinned (OpenSpec.upto kvFullSpec)

/-- 'palaverlaw11.KvStays', WHERE WHAT IT READS IS OF BULK AT MOST 1048576: true; the input reads as it did. -/
def kvStaysUptoRow : OpenClaim := { program := "ytimhpncdlaildaa", sum := "324f5bddc5872d71842fb37f0372beffe201f90a11c78367edca98bb07db9180", func := "palaver/palaverlaw11.KvStays", spec := "kvStays", unfollowed := true, recurses := true, apart := false, narrowed := true }
def KvStaysUptoSaid : Prop := kvStaysUptoRow.holds Try.pinned (OpenSpec.upto kvStaysSpec)

/-- 'palaverlaw11.KvPlays', WHERE WHAT IT READS IS OF BULK AT MOST 1048576: true; the input reads as it did. -/
def kvPlaysUptoRow : OpenClaim := { program := "ytimhpncdlaildaa", sum := "324f5bddc5872d71842fb37f0372beffe201f90a11c78367edca98bb07db9180", func := "palaver/palaverlaw11.KvPlays", spec := "kvPlays", unfollowed := true, recurses := true, apart := false, narrowed := true }
def KvPlaysUptoSaid : Prop := kvPlaysUptoRow.holds Try.pinned (OpenSpec.upto kvPlaysSpec)

/-- 'palaverlaw11.KvApart', WHERE WHAT IT READS IS OF BULK AT MOST 1048576: true; the input reads as it did. -/
def kvApartUptoRow : OpenClaim := { program := "ytimhpncdlaildaa", sum := "324f5bddc5872d71842fb37f0372beffe201f90a11c78367edca98bb07db9180", func := "palaver/palaverlaw11.KvApart", spec := "kvApart", unfollowed := true, recurses := true, apart := false, narrowed := true }
def KvApartUptoSaid : Prop := kvApartUptoRow.holds Try.pinned (OpenSpec.upto kvApartSpec)

end Rows
end Go.Proofs.Ytimhpncdlaildaa
