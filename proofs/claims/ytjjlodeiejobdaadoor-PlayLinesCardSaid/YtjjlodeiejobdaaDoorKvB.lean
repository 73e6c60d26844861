/- Commands: Check. No condition. -/
import Derived.Test.YtjjlodeiejobdaaDoorTrD
import Derived.Test.YtjjlodeiejobdaaDoorRegG
import Derived.Test.YtjjlodeiejobdaaDoorRegL
import Derived.MapKept
import Derived.WalkKit
import Derived.OwnWalk
import Derived.Deep.DeepCutAuto
namespace Go.Proofs.YtjjlodeiejobdaaDoor
open Go.RowKit
section
variable {w w' : World} {b b' i : Nat} {v x : Value} {t : TypeId}
theorem below_setV {w0 : World} {n : Nat} (h : Below n w0 w) (hb : n ≤ b) : Below n w0 (w.setCell ⟨b, i, none⟩ x) :=
  ⟨h.os, h.tape, h.output, by simpa [World.setCell] using h.size, fun q hq => (Below.heap_setCell _ _ _ _ (by show q ≠ b; omega)).trans (h.block q hq)⟩
end
end Go.Proofs.YtjjlodeiejobdaaDoor
