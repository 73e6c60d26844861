/- KvStays' law in the form of its row: the opener's word first, then the world. No condition but that the slice reads as a list of commands. -/
import Derived.Test.YtimhpncdlaildaaKvJ
namespace Go.Proofs.Ytimhpncdlaildaa
open Go.RowKit
theorem kvStays_law (a : Option Addr) (len cap : Nat) (z : List CmdV) {w : World} (h : CmdsAt w a len z) (_W : World) :
    Calls Try.prog 13 #[.slice a len cap] w fun e w' => e = .returned (.bool true) ∧ Below w.heap.size w w' :=
  kvStays_any a len cap z w h
end Go.Proofs.Ytimhpncdlaildaa
