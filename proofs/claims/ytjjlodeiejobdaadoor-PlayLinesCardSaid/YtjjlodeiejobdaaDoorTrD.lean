/- Trees: join. Condition: few enough nodes that their number is an int. -/
import Derived.Test.YtjjlodeiejobdaaDoorCrcA
import Derived.Test.YtjjlodeiejobdaaDoorRegR
import Derived.Test.YtjjlodeiejobdaaDoorRows
import Derived.WalkKit
import Derived.WalkSpells
import Derived.WalkLawsBesides
import Derived.Lib.Hide
import Derived.BigQuiet
import Derived.Deep.QuietTactic
import Derived.Below
import Derived.OpenShut
import Derived.Deep.DeepCutAuto
import Derived.Deep.CutBlock
import Derived.LaidEqlPtr
namespace Go.Proofs.YtjjlodeiejobdaaDoor
open Go.RowKit
/-- A world in which all that was there is as it was. -/
def KeptW (w y : World) : Prop := Below w.heap.size w y
theorem KeptW.mono {w y y' : World} (h : KeptW w y) (hb : Below y.heap.size y y') : KeptW w y' := Below.trans h (Below.mono hb (Below.size h))
theorem KeptW.bel {w y : World} (h : KeptW w y) : Below w.heap.size w y := h
end Go.Proofs.YtjjlodeiejobdaaDoor
