/- The law TreeLeaves, for every whole number that a byte may be. No condition. -/
import Derived.Test.YtimhpncdlaildaaTrAC
namespace Go.Proofs.Ytimhpncdlaildaa
open Go.RowKit
theorem treeLeaves_byte (a0 : Option Addr) (l0 c0 : Nat) (z0 : List TAct) (a1 : Option Addr) (l1 c1 : Nat) (z1 : List TAct) (n : Int) {w : World} (h0 : TActsAt w a0 l0 z0) (h1 : TActsAt w a1 l1 z1) (hn : (Lit.int .u8 n).wf = true) (W : World) :
    Calls Try.prog 11 #[.slice a0 l0 c0, .slice a1 l1 c1, .int .u8 n] w fun e w' => e = .returned (.bool true) ∧ Below w.heap.size w w' := by
  obtain ⟨mo, rfl⟩ := tr_u8 hn
  exact treeLeaves_law a0 l0 c0 z0 a1 l1 c1 z1 mo h0 h1 W
end Go.Proofs.Ytimhpncdlaildaa
