/-
  No cell of these rows narrows 'for every input' (looked for: loops, veiled, ifaces, maps, wideKeys, modest, calm, conditions, laid).
  DERIVED. THE GIVEN ROWS OF THIS SEAT. 4 by the template 'for every input the law returns true; each argument reads behind the call as it read before'; 0 by the template 'total and deterministic' (their statements: YtoleiiicbnmhpaaTotals.lean).
  GIVEN WITH THE SEED: the statements are not yours to turn. If you find one false, say at which input.
  Laid BY PROGRAM, IN A SANDBOX (cutbox-rows.mjs): the forced cells as the released guide's own fill.sh prints them over the translation 5bc626002e5259f2… (all of the seat's roots in one cut). By AI agents, Wed Nov 11 2026. No macro, syntax, notation, axiom, sorry.
-/
import Derived.Test.YtoleiiicbnmhpaaChecked
import GoSem.Claim
import GoSem.ClaimJoined
import GoSem.ClaimMapViews
import Derived.JoinedTies
import Derived.KernelRfl
namespace Go.Proofs.Ytoleiiicbnmhpaa
/- THE CELL 'sum', in the pinned program and in every row, IS THE sha256 OF THE DUMP (.gsa) THAT YtoleiiicbnmhpaaProg.lean LOADS. Nothing in Lean hashes anything: it is a label: what it is worth is what the hold of that sum in a sandbox is worth. -/
noncomputable def Try.pinned : Pinned := { name := "ytoleiiicbnmhpaa", sum := "5bc626002e5259f23a388b70abb29c0feb06c8fc4f5a2239c264435f661e1c6d", checked := Try.checked }
namespace Rows
def none {H : Type} : Left H := { results := [], args := [] }

/-- 'palaverlaw20.ProposeOrder': WHATEVER THE INPUT: true; the input reads as it did. -/
def proposeOrderSpec : ChangeSpec := { name := "proposeOrder", fn := fun _ => fun
  | [d1, d2, d3] => { results := [.lit (.bool true)], args := [d1, d2, d3] }
  | _ => none }
def proposeOrderRow : OpenClaim := { program := "ytoleiiicbnmhpaa", sum := "5bc626002e5259f23a388b70abb29c0feb06c8fc4f5a2239c264435f661e1c6d", func := "palaver/palaverlaw20.ProposeOrder", spec := "proposeOrder", unfollowed := true, recurses := true, apart := false }
def ProposeOrderSaid : Prop := proposeOrderRow.holds Try.pinned (OpenSpec.ofChange proposeOrderSpec)

/-- ITS FALSE NEIGHBOUR: 'it returns false'. Refute it at one input. -/
def proposeOrderWrong : ChangeSpec := { name := "proposeOrder", fn := fun _ => fun
  | [d1, d2, d3] => { results := [.lit (.bool false)], args := [d1, d2, d3] }
  | _ => none }
def ProposeOrderWrongFalsely : Prop := proposeOrderRow.holds Try.pinned (OpenSpec.ofChange proposeOrderWrong)

/-- 'palaverlaw20.ProposeNil': WHATEVER THE INPUT: true; the input reads as it did. -/
def proposeNilSpec : ChangeSpec := { name := "proposeNil", fn := fun _ => fun
  | [d] => { results := [.lit (.bool true)], args := [d] }
  | _ => none }
def proposeNilRow : OpenClaim := { program := "ytoleiiicbnmhpaa", sum := "5bc626002e5259f23a388b70abb29c0feb06c8fc4f5a2239c264435f661e1c6d", func := "palaver/palaverlaw20.ProposeNil", spec := "proposeNil", unfollowed := true, recurses := true, apart := false }
def ProposeNilSaid : Prop := proposeNilRow.holds Try.pinned (OpenSpec.ofChange proposeNilSpec)

/-- ITS FALSE NEIGHBOUR: 'it returns false'. Refute it at one input. -/
def proposeNilWrong : ChangeSpec := { name := "proposeNil", fn := fun _ => fun
  | [d] => { results := [.lit (.bool false)], args := [d] }
  | _ => none }
def ProposeNilWrongFalsely : Prop := proposeNilRow.holds Try.pinned (OpenSpec.ofChange proposeNilWrong)

/-- 'palaverlaw20.ProposePlays': WHATEVER THE INPUT: true; the input reads as it did. -/
def proposePlaysSpec : ChangeSpec := { name := "proposePlays", fn := fun _ => fun
  | [d] => { results := [.lit (.bool true)], args := [d] }
  | _ => none }
def proposePlaysRow : OpenClaim := { program := "ytoleiiicbnmhpaa", sum := "5bc626002e5259f23a388b70abb29c0feb06c8fc4f5a2239c264435f661e1c6d", func := "palaver/palaverlaw20.ProposePlays", spec := "proposePlays", unfollowed := true, recurses := true, apart := false }
def ProposePlaysSaid : Prop := proposePlaysRow.holds Try.pinned (OpenSpec.ofChange proposePlaysSpec)

/-- ITS FALSE NEIGHBOUR: 'it returns false'. Refute it at one input. -/
def proposePlaysWrong : ChangeSpec := { name := "proposePlays", fn := fun _ => fun
  | [d] => { results := [.lit (.bool false)], args := [d] }
  | _ => none }
def ProposePlaysWrongFalsely : Prop := proposePlaysRow.holds Try.pinned (OpenSpec.ofChange proposePlaysWrong)

/-- 'palaverlaw20.ProposeOnce': WHATEVER THE INPUT: true; the input reads as it did. -/
def proposeOnceSpec : ChangeSpec := { name := "proposeOnce", fn := fun _ => fun
  | [d] => { results := [.lit (.bool true)], args := [d] }
  | _ => none }
def proposeOnceRow : OpenClaim := { program := "ytoleiiicbnmhpaa", sum := "5bc626002e5259f23a388b70abb29c0feb06c8fc4f5a2239c264435f661e1c6d", func := "palaver/palaverlaw20.ProposeOnce", spec := "proposeOnce", unfollowed := true, recurses := true, apart := false }
def ProposeOnceSaid : Prop := proposeOnceRow.holds Try.pinned (OpenSpec.ofChange proposeOnceSpec)

/-- ITS FALSE NEIGHBOUR: 'it returns false'. Refute it at one input. -/
def proposeOnceWrong : ChangeSpec := { name := "proposeOnce", fn := fun _ => fun
  | [d] => { results := [.lit (.bool false)], args := [d] }
  | _ => none }
def ProposeOnceWrongFalsely : Prop := proposeOnceRow.holds Try.pinned (OpenSpec.ofChange proposeOnceWrong)

/- THE SECOND FORM. 'bulk': how many values and letters a reading holds, each counted each time it is reached (what is shared counts as often as it is met; a slice's spare places count too). A statement '..UptoSaid' is the law's where the arguments, and the package variables that the reading takes, are together of bulk at most 1048576: NARROWER than '..Said'. Prove '..Said' where nothing that the law and all that it calls make is longer than what came in: it says more and counts as full. Else prove '..UptoSaid'. A law counts once. -/
mutual
def uptoBulk {H : Type} : DataW H → Nat
  | .lit (.string bytes) => bytes.length + 1
  | .lit _ => 1
  | .nil => 1
  | .ptr d => uptoBulk d + 1
  | .slice elems spare => uptoBulkAll elems + uptoBulkAll spare + 1
  | .agg parts => uptoBulkAll parts + 1
  | .iface _ d => uptoBulk d + 1
  | .map entries => uptoBulkEntries entries + 1
  | .held _ => 1
def uptoBulkAll {H : Type} : List (DataW H) → Nat
  | [] => 0
  | d :: r => uptoBulk d + uptoBulkAll r
def uptoBulkEntries {H : Type} : List (Lit × DataW H) → Nat
  | [] => 0
  | x :: r => uptoBulkEntry x + uptoBulkEntries r
def uptoBulkEntry {H : Type} : Lit × DataW H → Nat
  | (.string bytes, d) => bytes.length + uptoBulk d + 1
  | (_, d) => uptoBulk d + 1
 end
def uptoSmall : (H : Type) → List (DataW H) → Bool := fun _ ds => decide (uptoBulkAll ds ≤ 1048576)
def OpenSpec.upto (s : _root_.Go.ChangeSpec) : _root_.Go.OpenSpec := { _root_.Go.OpenSpec.ofChange s with cond := some uptoSmall }

/-- 'palaverlaw20.ProposeOrder', WHERE WHAT IT READS IS OF BULK AT MOST 1048576: true; the input reads as it did. -/
def proposeOrderUptoRow : OpenClaim := { program := "ytoleiiicbnmhpaa", sum := "5bc626002e5259f23a388b70abb29c0feb06c8fc4f5a2239c264435f661e1c6d", func := "palaver/palaverlaw20.ProposeOrder", spec := "proposeOrder", unfollowed := true, recurses := true, apart := false, narrowed := true }
def ProposeOrderUptoSaid : Prop := proposeOrderUptoRow.holds Try.pinned (OpenSpec.upto proposeOrderSpec)

/-- 'palaverlaw20.ProposeNil', WHERE WHAT IT READS IS OF BULK AT MOST 1048576: true; the input reads as it did. -/
def proposeNilUptoRow : OpenClaim := { program := "ytoleiiicbnmhpaa", sum := "5bc626002e5259f23a388b70abb29c0feb06c8fc4f5a2239c264435f661e1c6d", func := "palaver/palaverlaw20.ProposeNil", spec := "proposeNil", unfollowed := true, recurses := true, apart := false, narrowed := true }
def ProposeNilUptoSaid : Prop := proposeNilUptoRow.holds Try.pinned (OpenSpec.upto proposeNilSpec)

/-- 'palaverlaw20.ProposePlays', WHERE WHAT IT READS IS OF BULK AT MOST 1048576: true; the input reads as it did. -/
def proposePlaysUptoRow : OpenClaim := { program := "ytoleiiicbnmhpaa", sum := "5bc626002e5259f23a388b70abb29c0feb06c8fc4f5a2239c264435f661e1c6d", func := "palaver/palaverlaw20.ProposePlays", spec := "proposePlays", unfollowed := true, recurses := true, apart := false, narrowed := true }
def ProposePlaysUptoSaid : Prop := proposePlaysUptoRow.holds Try.pinned (OpenSpec.upto proposePlaysSpec)

/-- 'palaverlaw20.ProposeOnce', WHERE WHAT IT READS IS OF BULK AT MOST 1048576: true; the input reads as it did. -/
def proposeOnceUptoRow : OpenClaim := { program := "ytoleiiicbnmhpaa", sum := "5bc626002e5259f23a388b70abb29c0feb06c8fc4f5a2239c264435f661e1c6d", func := "palaver/palaverlaw20.ProposeOnce", spec := "proposeOnce", unfollowed := true, recurses := true, apart := false, narrowed := true }
def ProposeOnceUptoSaid : Prop := proposeOnceUptoRow.holds Try.pinned (OpenSpec.upto proposeOnceSpec)

end Rows
end Go.Proofs.Ytoleiiicbnmhpaa
