/- Plain facts on the checksum of 64 bits: one step, eight steps, a text. No condition. -/
import Derived.Laws.Bits64
import Derived.Laws.BitsAllLaws
namespace Go.Proofs.YtjjlodeiejobdaaDoor.Crc
def poly : BitVec 64 := 0xc96c5795d7870f42#64
def st (x : BitVec 64) : BitVec 64 := if x &&& 1#64 == 1#64 then (x >>> 1) ^^^ poly else x >>> 1
def sts : Nat → BitVec 64 → BitVec 64
  | 0, x => x
  | k + 1, x => st (sts k x)
def byte (c : UInt8) : BitVec 64 := BitVec.ofNat 64 c.toNat
def more (n : BitVec 64) (l : List UInt8) : BitVec 64 := l.foldl (fun n c => sts 8 (n ^^^ byte c)) n
end Go.Proofs.YtjjlodeiejobdaaDoor.Crc
