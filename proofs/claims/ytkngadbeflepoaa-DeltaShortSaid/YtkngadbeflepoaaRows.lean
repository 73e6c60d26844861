/-
  No cell of these rows narrows 'for every input' (looked for: loops, veiled, ifaces, maps, wideKeys, modest, calm, conditions, laid).
  DERIVED. THE GIVEN ROWS OF THIS SEAT. 9 by the template 'for every input the law returns true; each argument reads behind the call as it read before'; 0 by the template 'total and deterministic' (their statements: YtkngadbeflepoaaTotals.lean).
  GIVEN WITH THE SEED: the statements are not yours to turn. If you find one false, say at which input.
  Laid BY PROGRAM, IN A SANDBOX (cutbox-rows.mjs): the forced cells as the released guide's own fill.sh prints them over the translation 6a40e0dff1d9d731… (all of the seat's roots in one cut). By AI agents, Wed Nov 11 2026. No macro, syntax, notation, axiom, sorry.
-/
import Derived.Test.YtkngadbeflepoaaChecked
import GoSem.Claim
import GoSem.ClaimJoined
import GoSem.ClaimMapViews
import Derived.JoinedTies
import Derived.KernelRfl
namespace Go.Proofs.Ytkngadbeflepoaa
/- THE CELL 'sum', in the pinned program and in every row, IS THE sha256 OF THE DUMP (.gsa) THAT YtkngadbeflepoaaProg.lean LOADS. Nothing in Lean hashes anything: it is a label: what it is worth is what the hold of that sum in a sandbox is worth. -/
noncomputable def Try.pinned : Pinned := { name := "ytkngadbeflepoaa", sum := "6a40e0dff1d9d7315a2407b1901d4dd776cc73ca7902d28298954ee44fdfe942", checked := Try.checked }
namespace Rows
def none {H : Type} : Left H := { results := [], args := [] }

/-- 'palaverlaw10.TreePlays': WHATEVER THE INPUT: true; the input reads as it did. -/
def treePlaysSpec : ChangeSpec := { name := "treePlays", fn := fun _ => fun
  | [d] => { results := [.lit (.bool true)], args := [d] }
  | _ => none }
def treePlaysRow : OpenClaim := { program := "ytkngadbeflepoaa", sum := "6a40e0dff1d9d7315a2407b1901d4dd776cc73ca7902d28298954ee44fdfe942", func := "palaver/palaverlaw10.TreePlays", spec := "treePlays", unfollowed := true, recurses := true, apart := false }
def TreePlaysSaid : Prop := treePlaysRow.holds Try.pinned (OpenSpec.ofChange treePlaysSpec)

/-- ITS FALSE NEIGHBOUR: 'it returns false'. Refute it at one input. -/
def treePlaysWrong : ChangeSpec := { name := "treePlays", fn := fun _ => fun
  | [d] => { results := [.lit (.bool false)], args := [d] }
  | _ => none }
def TreePlaysWrongFalsely : Prop := treePlaysRow.holds Try.pinned (OpenSpec.ofChange treePlaysWrong)

/-- 'palaverlaw11.KvPlays': WHATEVER THE INPUT: true; the input reads as it did. -/
def kvPlaysSpec : ChangeSpec := { name := "kvPlays", fn := fun _ => fun
  | [d1, d2] => { results := [.lit (.bool true)], args := [d1, d2] }
  | _ => none }
def kvPlaysRow : OpenClaim := { program := "ytkngadbeflepoaa", sum := "6a40e0dff1d9d7315a2407b1901d4dd776cc73ca7902d28298954ee44fdfe942", func := "palaver/palaverlaw11.KvPlays", spec := "kvPlays", unfollowed := true, recurses := true, apart := false }
def KvPlaysSaid : Prop := kvPlaysRow.holds Try.pinned (OpenSpec.ofChange kvPlaysSpec)

/-- ITS FALSE NEIGHBOUR: 'it returns false'. Refute it at one input. -/
def kvPlaysWrong : ChangeSpec := { name := "kvPlays", fn := fun _ => fun
  | [d1, d2] => { results := [.lit (.bool false)], args := [d1, d2] }
  | _ => none }
def KvPlaysWrongFalsely : Prop := kvPlaysRow.holds Try.pinned (OpenSpec.ofChange kvPlaysWrong)

/-- 'palaverlaw13.MachineOnce': WHATEVER THE INPUT: true; the input reads as it did. -/
def machineOnceSpec : ChangeSpec := { name := "machineOnce", fn := fun _ => fun
  | [d1, d2, d3, d4] => { results := [.lit (.bool true)], args := [d1, d2, d3, d4] }
  | _ => none }
def machineOnceRow : OpenClaim := { program := "ytkngadbeflepoaa", sum := "6a40e0dff1d9d7315a2407b1901d4dd776cc73ca7902d28298954ee44fdfe942", func := "palaver/palaverlaw13.MachineOnce", spec := "machineOnce", unfollowed := true, recurses := true, apart := false }
def MachineOnceSaid : Prop := machineOnceRow.holds Try.pinned (OpenSpec.ofChange machineOnceSpec)

/-- ITS FALSE NEIGHBOUR: 'it returns false'. Refute it at one input. -/
def machineOnceWrong : ChangeSpec := { name := "machineOnce", fn := fun _ => fun
  | [d1, d2, d3, d4] => { results := [.lit (.bool false)], args := [d1, d2, d3, d4] }
  | _ => none }
def MachineOnceWrongFalsely : Prop := machineOnceRow.holds Try.pinned (OpenSpec.ofChange machineOnceWrong)

/-- 'palaverlaw13.MachinePlays': WHATEVER THE INPUT: true; the input reads as it did. -/
def machinePlaysSpec : ChangeSpec := { name := "machinePlays", fn := fun _ => fun
  | [d1, d2, d3] => { results := [.lit (.bool true)], args := [d1, d2, d3] }
  | _ => none }
def machinePlaysRow : OpenClaim := { program := "ytkngadbeflepoaa", sum := "6a40e0dff1d9d7315a2407b1901d4dd776cc73ca7902d28298954ee44fdfe942", func := "palaver/palaverlaw13.MachinePlays", spec := "machinePlays", unfollowed := true, recurses := true, apart := false }
def MachinePlaysSaid : Prop := machinePlaysRow.holds Try.pinned (OpenSpec.ofChange machinePlaysSpec)

/-- ITS FALSE NEIGHBOUR: 'it returns false'. Refute it at one input. -/
def machinePlaysWrong : ChangeSpec := { name := "machinePlays", fn := fun _ => fun
  | [d1, d2, d3] => { results := [.lit (.bool false)], args := [d1, d2, d3] }
  | _ => none }
def MachinePlaysWrongFalsely : Prop := machinePlaysRow.holds Try.pinned (OpenSpec.ofChange machinePlaysWrong)

/-- 'palaverlaw13.MachineBack': WHATEVER THE INPUT: true; the input reads as it did. -/
def machineBackSpec : ChangeSpec := { name := "machineBack", fn := fun _ => fun
  | [d1, d2, d3] => { results := [.lit (.bool true)], args := [d1, d2, d3] }
  | _ => none }
def machineBackRow : OpenClaim := { program := "ytkngadbeflepoaa", sum := "6a40e0dff1d9d7315a2407b1901d4dd776cc73ca7902d28298954ee44fdfe942", func := "palaver/palaverlaw13.MachineBack", spec := "machineBack", unfollowed := true, recurses := true, apart := false }
def MachineBackSaid : Prop := machineBackRow.holds Try.pinned (OpenSpec.ofChange machineBackSpec)

/-- ITS FALSE NEIGHBOUR: 'it returns false'. Refute it at one input. -/
def machineBackWrong : ChangeSpec := { name := "machineBack", fn := fun _ => fun
  | [d1, d2, d3] => { results := [.lit (.bool false)], args := [d1, d2, d3] }
  | _ => none }
def MachineBackWrongFalsely : Prop := machineBackRow.holds Try.pinned (OpenSpec.ofChange machineBackWrong)

/-- 'palaverlaw13.MachineMakes': WHATEVER THE INPUT: true; the input reads as it did. -/
def machineMakesSpec : ChangeSpec := { name := "machineMakes", fn := fun _ => fun
  | [d1, d2, d3, d4] => { results := [.lit (.bool true)], args := [d1, d2, d3, d4] }
  | _ => none }
def machineMakesRow : OpenClaim := { program := "ytkngadbeflepoaa", sum := "6a40e0dff1d9d7315a2407b1901d4dd776cc73ca7902d28298954ee44fdfe942", func := "palaver/palaverlaw13.MachineMakes", spec := "machineMakes", unfollowed := true, recurses := true, apart := false }
def MachineMakesSaid : Prop := machineMakesRow.holds Try.pinned (OpenSpec.ofChange machineMakesSpec)

/-- ITS FALSE NEIGHBOUR: 'it returns false'. Refute it at one input. -/
def machineMakesWrong : ChangeSpec := { name := "machineMakes", fn := fun _ => fun
  | [d1, d2, d3, d4] => { results := [.lit (.bool false)], args := [d1, d2, d3, d4] }
  | _ => none }
def MachineMakesWrongFalsely : Prop := machineMakesRow.holds Try.pinned (OpenSpec.ofChange machineMakesWrong)

/-- 'palaverlaw14.DeltaLeads': WHATEVER THE INPUT: true; the input reads as it did. -/
def deltaLeadsSpec : ChangeSpec := { name := "deltaLeads", fn := fun _ => fun
  | [d1, d2, d3, d4] => { results := [.lit (.bool true)], args := [d1, d2, d3, d4] }
  | _ => none }
def deltaLeadsRow : OpenClaim := { program := "ytkngadbeflepoaa", sum := "6a40e0dff1d9d7315a2407b1901d4dd776cc73ca7902d28298954ee44fdfe942", func := "palaver/palaverlaw14.DeltaLeads", spec := "deltaLeads", unfollowed := true, recurses := true, apart := false }
def DeltaLeadsSaid : Prop := deltaLeadsRow.holds Try.pinned (OpenSpec.ofChange deltaLeadsSpec)

/-- ITS FALSE NEIGHBOUR: 'it returns false'. Refute it at one input. -/
def deltaLeadsWrong : ChangeSpec := { name := "deltaLeads", fn := fun _ => fun
  | [d1, d2, d3, d4] => { results := [.lit (.bool false)], args := [d1, d2, d3, d4] }
  | _ => none }
def DeltaLeadsWrongFalsely : Prop := deltaLeadsRow.holds Try.pinned (OpenSpec.ofChange deltaLeadsWrong)

/-- 'palaverlaw14.DeltaShort': WHATEVER THE INPUT: true; the input reads as it did. -/
def deltaShortSpec : ChangeSpec := { name := "deltaShort", fn := fun _ => fun
  | [d1, d2] => { results := [.lit (.bool true)], args := [d1, d2] }
  | _ => none }
def deltaShortRow : OpenClaim := { program := "ytkngadbeflepoaa", sum := "6a40e0dff1d9d7315a2407b1901d4dd776cc73ca7902d28298954ee44fdfe942", func := "palaver/palaverlaw14.DeltaShort", spec := "deltaShort", unfollowed := true, recurses := true, apart := false }
def DeltaShortSaid : Prop := deltaShortRow.holds Try.pinned (OpenSpec.ofChange deltaShortSpec)

/-- ITS FALSE NEIGHBOUR: 'it returns false'. Refute it at one input. -/
def deltaShortWrong : ChangeSpec := { name := "deltaShort", fn := fun _ => fun
  | [d1, d2] => { results := [.lit (.bool false)], args := [d1, d2] }
  | _ => none }
def DeltaShortWrongFalsely : Prop := deltaShortRow.holds Try.pinned (OpenSpec.ofChange deltaShortWrong)

/-- 'palaverlaw14.DeltaSums': WHATEVER THE INPUT: true; the input reads as it did. -/
def deltaSumsSpec : ChangeSpec := { name := "deltaSums", fn := fun _ => fun
  | [d1, d2, d3] => { results := [.lit (.bool true)], args := [d1, d2, d3] }
  | _ => none }
def deltaSumsRow : OpenClaim := { program := "ytkngadbeflepoaa", sum := "6a40e0dff1d9d7315a2407b1901d4dd776cc73ca7902d28298954ee44fdfe942", func := "palaver/palaverlaw14.DeltaSums", spec := "deltaSums", unfollowed := true, recurses := true, apart := false }
def DeltaSumsSaid : Prop := deltaSumsRow.holds Try.pinned (OpenSpec.ofChange deltaSumsSpec)

/-- ITS FALSE NEIGHBOUR: 'it returns false'. Refute it at one input. -/
def deltaSumsWrong : ChangeSpec := { name := "deltaSums", fn := fun _ => fun
  | [d1, d2, d3] => { results := [.lit (.bool false)], args := [d1, d2, d3] }
  | _ => none }
def DeltaSumsWrongFalsely : Prop := deltaSumsRow.holds Try.pinned (OpenSpec.ofChange deltaSumsWrong)

/- THE SECOND FORM. 'bulk': how many values and letters a reading holds, each counted each time it is reached (what is shared counts as often as it is met; a slice's spare places count too). A statement '..UptoSaid' is the law's where the arguments, and the package variables that the reading takes, are together of bulk at most 1048576: NARROWER than '..Said'. Prove '..Said' where nothing that the law and all that it calls make is longer than what came in: it says more and counts as full. Else prove '..UptoSaid'. A law counts once. -/
mutual
def uptoBulk {H : Type} : DataW H → Nat
  | .lit (.string bytes) => bytes.length + 1
  | .lit _ => 1
  | .nil => 1
  | .ptr d => uptoBulk d + 1
  | .slice elems spare => uptoBulkAll elems + uptoBulkAll spare + 1
  | .agg parts => uptoBulkAll parts + 1
  | .iface _ d => uptoBulk d + 1
  | .map entries => uptoBulkEntries entries + 1
  | .held _ => 1
def uptoBulkAll {H : Type} : List (DataW H) → Nat
  | [] => 0
  | d :: r => uptoBulk d + uptoBulkAll r
def uptoBulkEntries {H : Type} : List (Lit × DataW H) → Nat
  | [] => 0
  | x :: r => uptoBulkEntry x + uptoBulkEntries r
def uptoBulkEntry {H : Type} : Lit × DataW H → Nat
  | (.string bytes, d) => bytes.length + uptoBulk d + 1
  | (_, d) => uptoBulk d + 1
 end
def uptoSmall : (H : Type) → List (DataW H) → Bool := fun _ ds => decide (uptoBulkAll ds ≤ 1048576)
def OpenSpec.upto (s : _root_.Go.ChangeSpec) : _root_.Go.OpenSpec := { _root_.Go.OpenSpec.ofChange s with cond := some uptoSmall }

/-- 'palaverlaw10.TreePlays', WHERE WHAT IT READS IS OF BULK AT MOST 1048576: true; the input reads as it did. -/
def treePlaysUptoRow : OpenClaim := { program := "ytkngadbeflepoaa", sum := "6a40e0dff1d9d7315a2407b1901d4dd776cc73ca7902d28298954ee44fdfe942", func := "palaver/palaverlaw10.TreePlays", spec := "treePlays", unfollowed := true, recurses := true, apart := false, narrowed := true }
def TreePlaysUptoSaid : Prop := treePlaysUptoRow.holds Try.pinned (OpenSpec.upto treePlaysSpec)

/-- 'palaverlaw11.KvPlays', WHERE WHAT IT READS IS OF BULK AT MOST 1048576: true; the input reads as it did. -/
def kvPlaysUptoRow : OpenClaim := { program := "ytkngadbeflepoaa", sum := "6a40e0dff1d9d7315a2407b1901d4dd776cc73ca7902d28298954ee44fdfe942", func := "palaver/palaverlaw11.KvPlays", spec := "kvPlays", unfollowed := true, recurses := true, apart := false, narrowed := true }
def KvPlaysUptoSaid : Prop := kvPlaysUptoRow.holds Try.pinned (OpenSpec.upto kvPlaysSpec)

/-- 'palaverlaw13.MachineOnce', WHERE WHAT IT READS IS OF BULK AT MOST 1048576: true; the input reads as it did. -/
def machineOnceUptoRow : OpenClaim := { program := "ytkngadbeflepoaa", sum := "6a40e0dff1d9d7315a2407b1901d4dd776cc73ca7902d28298954ee44fdfe942", func := "palaver/palaverlaw13.MachineOnce", spec := "machineOnce", unfollowed := true, recurses := true, apart := false, narrowed := true }
def MachineOnceUptoSaid : Prop := machineOnceUptoRow.holds Try.pinned (OpenSpec.upto machineOnceSpec)

/-- 'palaverlaw13.MachinePlays', WHERE WHAT IT READS IS OF BULK AT MOST 1048576: true; the input reads as it did. -/
def machinePlaysUptoRow : OpenClaim := { program := "ytkngadbeflepoaa", sum := "6a40e0dff1d9d7315a2407b1901d4dd776cc73ca7902d28298954ee44fdfe942", func := "palaver/palaverlaw13.MachinePlays", spec := "machinePlays", unfollowed := true, recurses := true, apart := false, narrowed := true }
def MachinePlaysUptoSaid : Prop := machinePlaysUptoRow.holds Try.pinned (OpenSpec.upto machinePlaysSpec)

/-- 'palaverlaw13.MachineBack', WHERE WHAT IT READS IS OF BULK AT MOST 1048576: true; the input reads as it did. -/
def machineBackUptoRow : OpenClaim := { program := "ytkngadbeflepoaa", sum := "6a40e0dff1d9d7315a2407b1901d4dd776cc73ca7902d28298954ee44fdfe942", func := "palaver/palaverlaw13.MachineBack", spec := "machineBack", unfollowed := true, recurses := true, apart := false, narrowed := true }
def MachineBackUptoSaid : Prop := machineBackUptoRow.holds Try.pinned (OpenSpec.upto machineBackSpec)

/-- 'palaverlaw13.MachineMakes', WHERE WHAT IT READS IS OF BULK AT MOST 1048576: true; the input reads as it did. -/
def machineMakesUptoRow : OpenClaim := { program := "ytkngadbeflepoaa", sum := "6a40e0dff1d9d7315a2407b1901d4dd776cc73ca7902d28298954ee44fdfe942", func := "palaver/palaverlaw13.MachineMakes", spec := "machineMakes", unfollowed := true, recurses := true, apart := false, narrowed := true }
def MachineMakesUptoSaid : Prop := machineMakesUptoRow.holds Try.pinned (OpenSpec.upto machineMakesSpec)

/-- 'palaverlaw14.DeltaLeads', WHERE WHAT IT READS IS OF BULK AT MOST 1048576: true; the input reads as it did. -/
def deltaLeadsUptoRow : OpenClaim := { program := "ytkngadbeflepoaa", sum := "6a40e0dff1d9d7315a2407b1901d4dd776cc73ca7902d28298954ee44fdfe942", func := "palaver/palaverlaw14.DeltaLeads", spec := "deltaLeads", unfollowed := true, recurses := true, apart := false, narrowed := true }
def DeltaLeadsUptoSaid : Prop := deltaLeadsUptoRow.holds Try.pinned (OpenSpec.upto deltaLeadsSpec)

/-- 'palaverlaw14.DeltaShort', WHERE WHAT IT READS IS OF BULK AT MOST 1048576: true; the input reads as it did. -/
def deltaShortUptoRow : OpenClaim := { program := "ytkngadbeflepoaa", sum := "6a40e0dff1d9d7315a2407b1901d4dd776cc73ca7902d28298954ee44fdfe942", func := "palaver/palaverlaw14.DeltaShort", spec := "deltaShort", unfollowed := true, recurses := true, apart := false, narrowed := true }
def DeltaShortUptoSaid : Prop := deltaShortUptoRow.holds Try.pinned (OpenSpec.upto deltaShortSpec)

/-- 'palaverlaw14.DeltaSums', WHERE WHAT IT READS IS OF BULK AT MOST 1048576: true; the input reads as it did. -/
def deltaSumsUptoRow : OpenClaim := { program := "ytkngadbeflepoaa", sum := "6a40e0dff1d9d7315a2407b1901d4dd776cc73ca7902d28298954ee44fdfe942", func := "palaver/palaverlaw14.DeltaSums", spec := "deltaSums", unfollowed := true, recurses := true, apart := false, narrowed := true }
def DeltaSumsUptoSaid : Prop := deltaSumsUptoRow.holds Try.pinned (OpenSpec.upto deltaSumsSpec)

end Rows
end Go.Proofs.Ytkngadbeflepoaa
