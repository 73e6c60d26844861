/-
  No cell of these rows narrows 'for every input' (looked for: loops, veiled, ifaces, maps, wideKeys, modest, calm, conditions, laid).
  DERIVED. THE GIVEN ROWS OF THIS SEAT. 5 by the template 'for every input the law returns true; each argument reads behind the call as it read before'; 0 by the template 'total and deterministic' (their statements: YtbckjgageofldaaGreatTotals.lean).
  GIVEN WITH THE SEED: the statements are not yours to turn. If you find one false, say at which input.
  Laid BY PROGRAM, IN A SANDBOX (cutbox-rows.mjs): the forced cells as the released guide's own fill.sh prints them over the translation 43e501e77c53c52d… (all of the seat's roots in one cut). By AI agents, Wed Nov 11 2026. No macro, syntax, notation, axiom, sorry.
-/
import Derived.Test.YtbckjgageofldaaGreatChecked
import GoSem.Claim
import GoSem.ClaimJoined
import GoSem.ClaimMapViews
import Derived.JoinedTies
import Derived.KernelRfl
namespace Go.Proofs.YtbckjgageofldaaGreat
/- THE CELL 'sum', in the pinned program and in every row, IS THE sha256 OF THE DUMP (.gsa) THAT YtbckjgageofldaaGreatProg.lean LOADS. Nothing in Lean hashes anything: it is a label: what it is worth is what the hold of that sum in a sandbox is worth. -/
noncomputable def Tryz.pinned : Pinned := { name := "ytbckjgageofldaagreat", sum := "43e501e77c53c52d2fb39bc3588a6a0ea78429fabedd8897e621485d7ee1a506", checked := Tryz.checked }
namespace Rows
def none {H : Type} : Left H := { results := [], args := [] }

/-- 'palaverlaw24.LearnNil': WHATEVER THE INPUT: true; the input reads as it did. -/
def learnNilSpec : ChangeSpec := { name := "learnNil", fn := fun _ => fun
  | [d] => { results := [.lit (.bool true)], args := [d] }
  | _ => none }
def learnNilRow : OpenClaim := { program := "ytbckjgageofldaagreat", sum := "43e501e77c53c52d2fb39bc3588a6a0ea78429fabedd8897e621485d7ee1a506", func := "palaver/palaverlaw24.LearnNil", spec := "learnNil", unfollowed := true, recurses := true, apart := false }
def LearnNilSaid : Prop := learnNilRow.holds Tryz.pinned (OpenSpec.ofChange learnNilSpec)

/-- ITS FALSE NEIGHBOUR: 'it returns false'. Refute it at one input. -/
def learnNilWrong : ChangeSpec := { name := "learnNil", fn := fun _ => fun
  | [d] => { results := [.lit (.bool false)], args := [d] }
  | _ => none }
def LearnNilWrongFalsely : Prop := learnNilRow.holds Tryz.pinned (OpenSpec.ofChange learnNilWrong)

/-- 'palaverlaw24.LearnRefuses': WHATEVER THE INPUT: true; the input reads as it did. -/
def learnRefusesSpec : ChangeSpec := { name := "learnRefuses", fn := fun _ => fun
  | [d1, d2, d3] => { results := [.lit (.bool true)], args := [d1, d2, d3] }
  | _ => none }
def learnRefusesRow : OpenClaim := { program := "ytbckjgageofldaagreat", sum := "43e501e77c53c52d2fb39bc3588a6a0ea78429fabedd8897e621485d7ee1a506", func := "palaver/palaverlaw24.LearnRefuses", spec := "learnRefuses", unfollowed := true, recurses := true, apart := false }
def LearnRefusesSaid : Prop := learnRefusesRow.holds Tryz.pinned (OpenSpec.ofChange learnRefusesSpec)

/-- ITS FALSE NEIGHBOUR: 'it returns false'. Refute it at one input. -/
def learnRefusesWrong : ChangeSpec := { name := "learnRefuses", fn := fun _ => fun
  | [d1, d2, d3] => { results := [.lit (.bool false)], args := [d1, d2, d3] }
  | _ => none }
def LearnRefusesWrongFalsely : Prop := learnRefusesRow.holds Tryz.pinned (OpenSpec.ofChange learnRefusesWrong)

/-- 'palaverlaw24.LearnLeads': WHATEVER THE INPUT: true; the input reads as it did. -/
def learnLeadsSpec : ChangeSpec := { name := "learnLeads", fn := fun _ => fun
  | [d1, d2, d3, d4] => { results := [.lit (.bool true)], args := [d1, d2, d3, d4] }
  | _ => none }
def learnLeadsRow : OpenClaim := { program := "ytbckjgageofldaagreat", sum := "43e501e77c53c52d2fb39bc3588a6a0ea78429fabedd8897e621485d7ee1a506", func := "palaver/palaverlaw24.LearnLeads", spec := "learnLeads", unfollowed := true, recurses := true, apart := false }
def LearnLeadsSaid : Prop := learnLeadsRow.holds Tryz.pinned (OpenSpec.ofChange learnLeadsSpec)

/-- ITS FALSE NEIGHBOUR: 'it returns false'. Refute it at one input. -/
def learnLeadsWrong : ChangeSpec := { name := "learnLeads", fn := fun _ => fun
  | [d1, d2, d3, d4] => { results := [.lit (.bool false)], args := [d1, d2, d3, d4] }
  | _ => none }
def LearnLeadsWrongFalsely : Prop := learnLeadsRow.holds Tryz.pinned (OpenSpec.ofChange learnLeadsWrong)

/-- 'palaverlaw24.LearnPlays': WHATEVER THE INPUT: true; the input reads as it did. -/
def learnPlaysSpec : ChangeSpec := { name := "learnPlays", fn := fun _ => fun
  | [d1, d2, d3, d4] => { results := [.lit (.bool true)], args := [d1, d2, d3, d4] }
  | _ => none }
def learnPlaysRow : OpenClaim := { program := "ytbckjgageofldaagreat", sum := "43e501e77c53c52d2fb39bc3588a6a0ea78429fabedd8897e621485d7ee1a506", func := "palaver/palaverlaw24.LearnPlays", spec := "learnPlays", unfollowed := true, recurses := true, apart := false }
def LearnPlaysSaid : Prop := learnPlaysRow.holds Tryz.pinned (OpenSpec.ofChange learnPlaysSpec)

/-- ITS FALSE NEIGHBOUR: 'it returns false'. Refute it at one input. -/
def learnPlaysWrong : ChangeSpec := { name := "learnPlays", fn := fun _ => fun
  | [d1, d2, d3, d4] => { results := [.lit (.bool false)], args := [d1, d2, d3, d4] }
  | _ => none }
def LearnPlaysWrongFalsely : Prop := learnPlaysRow.holds Tryz.pinned (OpenSpec.ofChange learnPlaysWrong)

/-- 'palaverlaw30.TurnMakes': WHATEVER THE INPUT: true; the input reads as it did. -/
def turnMakesSpec : ChangeSpec := { name := "turnMakes", fn := fun _ => fun
  | [d1, d2, d3] => { results := [.lit (.bool true)], args := [d1, d2, d3] }
  | _ => none }
def turnMakesRow : OpenClaim := { program := "ytbckjgageofldaagreat", sum := "43e501e77c53c52d2fb39bc3588a6a0ea78429fabedd8897e621485d7ee1a506", func := "palaver/palaverlaw30.TurnMakes", spec := "turnMakes", unfollowed := true, recurses := true, apart := false }
def TurnMakesSaid : Prop := turnMakesRow.holds Tryz.pinned (OpenSpec.ofChange turnMakesSpec)

/-- ITS FALSE NEIGHBOUR: 'it returns false'. Refute it at one input. -/
def turnMakesWrong : ChangeSpec := { name := "turnMakes", fn := fun _ => fun
  | [d1, d2, d3] => { results := [.lit (.bool false)], args := [d1, d2, d3] }
  | _ => none }
def TurnMakesWrongFalsely : Prop := turnMakesRow.holds Tryz.pinned (OpenSpec.ofChange turnMakesWrong)

/- THE SECOND FORM. 'bulk': how many values and letters a reading holds, each counted each time it is reached (what is shared counts as often as it is met; a slice's spare places count too). A statement '..UptoSaid' is the law's where the arguments, and the package variables that the reading takes, are together of bulk at most 1048576: NARROWER than '..Said'. Prove '..Said' where nothing that the law and all that it calls make is longer than what came in: it says more and counts as full. Else prove '..UptoSaid'. A law counts once. -/
mutual
def uptoBulk {H : Type} : DataW H → Nat
  | .lit (.string bytes) => bytes.length + 1
  | .lit _ => 1
  | .nil => 1
  | .ptr d => uptoBulk d + 1
  | .slice elems spare => uptoBulkAll elems + uptoBulkAll spare + 1
  | .agg parts => uptoBulkAll parts + 1
  | .iface _ d => uptoBulk d + 1
  | .map entries => uptoBulkEntries entries + 1
  | .held _ => 1
def uptoBulkAll {H : Type} : List (DataW H) → Nat
  | [] => 0
  | d :: r => uptoBulk d + uptoBulkAll r
def uptoBulkEntries {H : Type} : List (Lit × DataW H) → Nat
  | [] => 0
  | x :: r => uptoBulkEntry x + uptoBulkEntries r
def uptoBulkEntry {H : Type} : Lit × DataW H → Nat
  | (.string bytes, d) => bytes.length + uptoBulk d + 1
  | (_, d) => uptoBulk d + 1
 end
def uptoSmall : (H : Type) → List (DataW H) → Bool := fun _ ds => decide (uptoBulkAll ds ≤ 1048576)
def OpenSpec.upto (s : _root_.Go.ChangeSpec) : _root_.Go.OpenSpec := { _root_.Go.OpenSpec.ofChange s with cond := some uptoSmall }

/-- 'palaverlaw24.LearnNil', WHERE WHAT IT READS IS OF BULK AT MOST 1048576: true; the input reads as it did. -/
def learnNilUptoRow : OpenClaim := { program := "ytbckjgageofldaagreat", sum := "43e501e77c53c52d2fb39bc3588a6a0ea78429fabedd8897e621485d7ee1a506", func := "palaver/palaverlaw24.LearnNil", spec := "learnNil", unfollowed := true, recurses := true, apart := false, narrowed := true }
def LearnNilUptoSaid : Prop := learnNilUptoRow.holds Tryz.pinned (OpenSpec.upto learnNilSpec)

/-- 'palaverlaw24.LearnRefuses', WHERE WHAT IT READS IS OF BULK AT MOST 1048576: true; the input reads as it did. -/
def learnRefusesUptoRow : OpenClaim := { program := "ytbckjgageofldaagreat", sum := "43e501e77c53c52d2fb39bc3588a6a0ea78429fabedd8897e621485d7ee1a506", func := "palaver/palaverlaw24.LearnRefuses", spec := "learnRefuses", unfollowed := true, recurses := true, apart := false, narrowed := true }
def LearnRefusesUptoSaid : Prop := learnRefusesUptoRow.holds Tryz.pinned (OpenSpec.upto learnRefusesSpec)

/-- 'palaverlaw24.LearnLeads', WHERE WHAT IT READS IS OF BULK AT MOST 1048576: true; the input reads as it did. -/
def learnLeadsUptoRow : OpenClaim := { program := "ytbckjgageofldaagreat", sum := "43e501e77c53c52d2fb39bc3588a6a0ea78429fabedd8897e621485d7ee1a506", func := "palaver/palaverlaw24.LearnLeads", spec := "learnLeads", unfollowed := true, recurses := true, apart := false, narrowed := true }
def LearnLeadsUptoSaid : Prop := learnLeadsUptoRow.holds Tryz.pinned (OpenSpec.upto learnLeadsSpec)

/-- 'palaverlaw24.LearnPlays', WHERE WHAT IT READS IS OF BULK AT MOST 1048576: true; the input reads as it did. -/
def learnPlaysUptoRow : OpenClaim := { program := "ytbckjgageofldaagreat", sum := "43e501e77c53c52d2fb39bc3588a6a0ea78429fabedd8897e621485d7ee1a506", func := "palaver/palaverlaw24.LearnPlays", spec := "learnPlays", unfollowed := true, recurses := true, apart := false, narrowed := true }
def LearnPlaysUptoSaid : Prop := learnPlaysUptoRow.holds Tryz.pinned (OpenSpec.upto learnPlaysSpec)

/-- 'palaverlaw30.TurnMakes', WHERE WHAT IT READS IS OF BULK AT MOST 1048576: true; the input reads as it did. -/
def turnMakesUptoRow : OpenClaim := { program := "ytbckjgageofldaagreat", sum := "43e501e77c53c52d2fb39bc3588a6a0ea78429fabedd8897e621485d7ee1a506", func := "palaver/palaverlaw30.TurnMakes", spec := "turnMakes", unfollowed := true, recurses := true, apart := false, narrowed := true }
def TurnMakesUptoSaid : Prop := turnMakesUptoRow.holds Tryz.pinned (OpenSpec.upto turnMakesSpec)

end Rows
end Go.Proofs.YtbckjgageofldaaGreat
