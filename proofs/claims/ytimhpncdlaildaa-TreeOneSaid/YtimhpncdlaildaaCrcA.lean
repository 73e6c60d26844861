/- Plain facts on the checksum of 64 bits: one step, eight steps, a text. No condition. -/
import Derived.Laws.Bits64
import Derived.Laws.BitsAllLaws
namespace Go.Proofs.Ytimhpncdlaildaa.Crc

def poly : BitVec 64 := 0xc96c5795d7870f42#64
def st (x : BitVec 64) : BitVec 64 := if x &&& 1#64 == 1#64 then (x >>> 1) ^^^ poly else x >>> 1
def sts : Nat → BitVec 64 → BitVec 64
  | 0, x => x
  | k + 1, x => st (sts k x)
def byte (c : UInt8) : BitVec 64 := BitVec.ofNat 64 c.toNat
def more (n : BitVec 64) (l : List UInt8) : BitVec 64 := l.foldl (fun n c => sts 8 (n ^^^ byte c)) n
def sum (s : BitVec 64) (l : List UInt8) : BitVec 64 := ~~~ more (~~~ s) l

theorem more_snoc (n : BitVec 64) (l : List UInt8) (c : UInt8) : more n (l ++ [c]) = sts 8 (more n l ^^^ byte c) := by simp [more]

theorem ofInt_toNat (x : BitVec 64) : BitVec.ofInt 64 (x.toNat : Int) = x := by
  rw [BitVec.ofInt_natCast]; simp
theorem wrap_toNat (x : BitVec 64) : IntKind.u64.wrap (x.toNat : Int) = x.toNat := by
  have := x.isLt
  rw [IntKind.wrap_u64]; omega
theorem xor_bv (x y : BitVec 64) : bits .xor .u64 (x.toNat : Int) (y.toNat : Int) = ((x ^^^ y).toNat : Int) := by
  show IntKind.u64.wrap ((BitVec.ofInt 64 (x.toNat : Int) ^^^ BitVec.ofInt 64 (y.toNat : Int)).toNat : Int) = _
  rw [ofInt_toNat, ofInt_toNat, wrap_toNat]
theorem xor_poly (x : BitVec 64) : bits .xor .u64 (x.toNat : Int) 14514072000185962306 = ((x ^^^ poly).toNat : Int) := xor_bv x poly
theorem and_bv (x y : BitVec 64) : bits .and .u64 (x.toNat : Int) (y.toNat : Int) = ((x &&& y).toNat : Int) := by
  show IntKind.u64.wrap ((BitVec.ofInt 64 (x.toNat : Int) &&& BitVec.ofInt 64 (y.toNat : Int)).toNat : Int) = _
  rw [ofInt_toNat, ofInt_toNat, wrap_toNat]
theorem and_one (x : BitVec 64) : bits .and .u64 (x.toNat : Int) 1 = ((x &&& 1#64).toNat : Int) := and_bv x 1#64
theorem half_bv (x : BitVec 64) : (x.toNat : Int) / (2 : Int) = ((x >>> (1 : Nat)).toNat : Int) := by
  simp [Nat.shiftRight_eq_div_pow]
theorem low_bv (x : BitVec 64) : ((x &&& 1#64).toNat : Int) = (x.toNat : Int) % 2 := by
  simp
theorem eq_bv (x y : BitVec 64) : (((x.toNat : Int)) == (y.toNat : Int)) = (x == y) := by
  rw [Bool.eq_iff_iff, beq_iff_eq, beq_iff_eq]; exact ⟨fun h => BitVec.eq_of_toNat_eq (Int.ofNat.inj h), fun h => by rw [h]⟩
theorem low_iff (x : BitVec 64) : (x &&& 1#64 == 1#64) = (bits .and .u64 (x.toNat : Int) 1 == 1) := by
  rw [← eq_bv, and_one]; rfl
theorem st_odd (x : BitVec 64) (h : (bits .and .u64 (x.toNat : Int) 1 == 1) = true) : bits .xor .u64 ((x.toNat : Int) / 2) 14514072000185962306 = ((st x).toNat : Int) := by
  rw [← low_iff] at h
  simp only [st, h, if_true]
  rw [half_bv, xor_poly]
theorem st_even (x : BitVec 64) (h : (bits .and .u64 (x.toNat : Int) 1 == 1) = false) : (x.toNat : Int) / 2 = ((st x).toNat : Int) := by
  rw [← low_iff] at h
  simp only [st, h, Bool.false_eq_true, if_false]
  rw [half_bv]
theorem low_mod (x : BitVec 64) : bits .and .u64 (x.toNat : Int) 1 = (x.toNat : Int) % 2 := by
  rw [and_one, low_bv]
theorem st_odd' (x : BitVec 64) (h : ((x.toNat : Int) % 2 == 1) = true) : bits .xor .u64 ((x.toNat : Int) / 2) 14514072000185962306 = ((st x).toNat : Int) := by
  rw [← low_mod] at h; exact st_odd x h
theorem st_even' (x : BitVec 64) (h : ((x.toNat : Int) % 2 == 1) = false) : (x.toNat : Int) / 2 = ((st x).toNat : Int) := by
  rw [← low_mod] at h; exact st_even x h
theorem not_bv (x : BitVec 64) : bits .xor .u64 IntKind.u64.max (x.toNat : Int) = ((~~~ x).toNat : Int) := by
  have h : IntKind.u64.max = ((BitVec.allOnes 64).toNat : Int) := by decide
  rw [h, xor_bv, BitVec.allOnes_xor]
theorem byte_wrap (c : UInt8) : IntKind.u64.wrap (c.toNat : Int) = ((byte c).toNat : Int) := by
  have := c.toNat_lt
  rw [IntKind.wrap_u64]; simp [byte]; omega
theorem byte_xor (x : BitVec 64) (c : UInt8) : bits .xor .u64 (x.toNat : Int) (IntKind.u64.wrap (c.toNat : Int)) = ((x ^^^ byte c).toNat : Int) := by
  rw [byte_wrap, xor_bv]
theorem take_snoc (s : ByteArray) (k : Nat) (h : k < s.size) : s.data.toList.take (k + 1) = s.data.toList.take k ++ [s[k]] := by
  rw [List.take_succ_eq_append_getElem (by simpa using h)]; rfl
theorem more_take (x : BitVec 64) (s : ByteArray) (k : Nat) (h : k < s.size) : more x (s.data.toList.take (k + 1)) = sts 8 (more x (s.data.toList.take k) ^^^ byte s[k]) := by
  rw [take_snoc s k h, more_snoc]
theorem take_all (s : ByteArray) : s.data.toList.take s.size = s.data.toList := List.take_of_length_le (by simp)
end Go.Proofs.Ytimhpncdlaildaa.Crc
