/- Plain facts on the checksum of 64 bits: one step, eight steps, a text. No condition. -/
import Derived.Laws.Bits64
import Derived.Laws.BitsAllLaws
import Derived.Test.YtkngadbeflepoaaRows
import Derived.WalkKit
import Derived.WalkSpells
import Derived.WalkLawsBesides
import Derived.Lib.Hide
namespace Go.Proofs.Ytkngadbeflepoaa.Crc

def poly : BitVec 64 := 0xc96c5795d7870f42#64
def st (x : BitVec 64) : BitVec 64 := if x &&& 1#64 == 1#64 then (x >>> 1) ^^^ poly else x >>> 1
def sts : Nat → BitVec 64 → BitVec 64
  | 0, x => x
  | k + 1, x => st (sts k x)
def byte (c : UInt8) : BitVec 64 := BitVec.ofNat 64 c.toNat
def more (n : BitVec 64) (l : List UInt8) : BitVec 64 := l.foldl (fun n c => sts 8 (n ^^^ byte c)) n
def sum (s : BitVec 64) (l : List UInt8) : BitVec 64 := ~~~ more (~~~ s) l

theorem more_snoc (n : BitVec 64) (l : List UInt8) (c : UInt8) : more n (l ++ [c]) = sts 8 (more n l ^^^ byte c) := by simp [more]

theorem ofInt_toNat (x : BitVec 64) : BitVec.ofInt 64 (x.toNat : Int) = x := by
  rw [BitVec.ofInt_natCast]; simp
theorem wrap_toNat (x : BitVec 64) : IntKind.u64.wrap (x.toNat : Int) = x.toNat := by
  have := x.isLt
  rw [IntKind.wrap_u64]; omega
theorem xor_bv (x y : BitVec 64) : bits .xor .u64 (x.toNat : Int) (y.toNat : Int) = ((x ^^^ y).toNat : Int) := by
  show IntKind.u64.wrap ((BitVec.ofInt 64 (x.toNat : Int) ^^^ BitVec.ofInt 64 (y.toNat : Int)).toNat : Int) = _
  rw [ofInt_toNat, ofInt_toNat, wrap_toNat]
theorem xor_poly (x : BitVec 64) : bits .xor .u64 (x.toNat : Int) 14514072000185962306 = ((x ^^^ poly).toNat : Int) := xor_bv x poly
theorem and_bv (x y : BitVec 64) : bits .and .u64 (x.toNat : Int) (y.toNat : Int) = ((x &&& y).toNat : Int) := by
  show IntKind.u64.wrap ((BitVec.ofInt 64 (x.toNat : Int) &&& BitVec.ofInt 64 (y.toNat : Int)).toNat : Int) = _
  rw [ofInt_toNat, ofInt_toNat, wrap_toNat]
theorem and_one (x : BitVec 64) : bits .and .u64 (x.toNat : Int) 1 = ((x &&& 1#64).toNat : Int) := and_bv x 1#64
theorem half_bv (x : BitVec 64) : (x.toNat : Int) / (2 : Int) = ((x >>> (1 : Nat)).toNat : Int) := by
  simp [Nat.shiftRight_eq_div_pow]
theorem low_bv (x : BitVec 64) : ((x &&& 1#64).toNat : Int) = (x.toNat : Int) % 2 := by
  simp
theorem eq_bv (x y : BitVec 64) : (((x.toNat : Int)) == (y.toNat : Int)) = (x == y) := by
  rw [Bool.eq_iff_iff, beq_iff_eq, beq_iff_eq]; exact ⟨fun h => BitVec.eq_of_toNat_eq (Int.ofNat.inj h), fun h => by rw [h]⟩
theorem low_iff (x : BitVec 64) : (x &&& 1#64 == 1#64) = (bits .and .u64 (x.toNat : Int) 1 == 1) := by
  rw [← eq_bv, and_one]; rfl
theorem st_odd (x : BitVec 64) (h : (bits .and .u64 (x.toNat : Int) 1 == 1) = true) : bits .xor .u64 ((x.toNat : Int) / 2) 14514072000185962306 = ((st x).toNat : Int) := by
  rw [← low_iff] at h
  simp only [st, h, if_true]
  rw [half_bv, xor_poly]
theorem st_even (x : BitVec 64) (h : (bits .and .u64 (x.toNat : Int) 1 == 1) = false) : (x.toNat : Int) / 2 = ((st x).toNat : Int) := by
  rw [← low_iff] at h
  simp only [st, h, Bool.false_eq_true, if_false]
  rw [half_bv]
theorem low_mod (x : BitVec 64) : bits .and .u64 (x.toNat : Int) 1 = (x.toNat : Int) % 2 := by
  rw [and_one, low_bv]
theorem st_odd' (x : BitVec 64) (h : ((x.toNat : Int) % 2 == 1) = true) : bits .xor .u64 ((x.toNat : Int) / 2) 14514072000185962306 = ((st x).toNat : Int) := by
  rw [← low_mod] at h; exact st_odd x h
theorem st_even' (x : BitVec 64) (h : ((x.toNat : Int) % 2 == 1) = false) : (x.toNat : Int) / 2 = ((st x).toNat : Int) := by
  rw [← low_mod] at h; exact st_even x h
theorem not_bv (x : BitVec 64) : bits .xor .u64 IntKind.u64.max (x.toNat : Int) = ((~~~ x).toNat : Int) := by
  have h : IntKind.u64.max = ((BitVec.allOnes 64).toNat : Int) := by decide
  rw [h, xor_bv, BitVec.allOnes_xor]
theorem byte_wrap (c : UInt8) : IntKind.u64.wrap (c.toNat : Int) = ((byte c).toNat : Int) := by
  have := c.toNat_lt
  rw [IntKind.wrap_u64]; simp [byte]; omega
theorem byte_xor (x : BitVec 64) (c : UInt8) : bits .xor .u64 (x.toNat : Int) (IntKind.u64.wrap (c.toNat : Int)) = ((x ^^^ byte c).toNat : Int) := by
  rw [byte_wrap, xor_bv]
theorem take_snoc (s : ByteArray) (k : Nat) (h : k < s.size) : s.data.toList.take (k + 1) = s.data.toList.take k ++ [s[k]] := by
  rw [List.take_succ_eq_append_getElem (by simpa using h)]; rfl
theorem more_take (x : BitVec 64) (s : ByteArray) (k : Nat) (h : k < s.size) : more x (s.data.toList.take (k + 1)) = sts 8 (more x (s.data.toList.take k) ^^^ byte s[k]) := by
  rw [take_snoc s k h, more_snoc]
theorem take_all (s : ByteArray) : s.data.toList.take s.size = s.data.toList := List.take_of_length_le (by simp)
end Go.Proofs.Ytkngadbeflepoaa.Crc
namespace Go.Proofs.Ytkngadbeflepoaa
open Go.RowKit

set_option maxHeartbeats 400000 in
theorem eight_any (x : BitVec 64) (w : World) :
    Calls Try.prog 134 #[.int .u64 (x.toNat : Int)] w fun e w' => e = .returned (.int .u64 (Crc.sts 8 x).toNat) ∧ w = w' := by
  go_enter Try.func134, Try.ntmps134
  go_wp2
  go_loop [0, 3, 4] (fun n _ i => ∃ k : Nat, k ≤ 8 ∧ i = .int .i64 k ∧ n = .int .u64 (Crc.sts k x).toNat) (fun _ _ i => 8 - (intOf i).toNat)
  case atStart => exact ⟨0, by omega, rfl, rfl⟩
  case round =>
    obtain ⟨k, hk, rfl, rfl⟩ := hrel
    generalize hy : Crc.sts k x = y
    have Hy := Lib.hid hy; clear hy
    go_wp2
    · go_round
      case rel => exact ⟨k + 1, by omega, by go_num, by rw [Crc.st_odd _ ‹_›, ← Hy.out]; rfl⟩
      case measure => simp [intOf]; omega
    · go_round
      case rel => exact ⟨k + 1, by omega, by go_num, by rw [Crc.st_even _ ‹_›, ← Hy.out]; rfl⟩
      case measure => simp [intOf]; omega
    · have h8 : k = 8 := by omega
      subst h8
      go_ret
      exact ⟨by rw [Hy.out]; rfl, rfl⟩

set_option maxHeartbeats 400000 in
theorem more_any (x : BitVec 64) (s : ByteArray) (hs : s.size ≤ maxLen) (w : World) :
    Calls Try.prog 125 #[.int .u64 (x.toNat : Int), .string s] w fun e w' => e = .returned (.int .u64 (Crc.sum x s.data.toList).toNat) ∧ w = w' := by
  unfold maxLen at hs
  have hn := Crc.not_bv x
  generalize hz : ~~~ x = z at hn
  have Hz := Lib.hid hz; clear hz
  go_enter Try.func125, Try.ntmps125
  go_wp2
  clear hn
  go_loop [5, 6, 11] (fun n _ i => ∃ k : Nat, k ≤ s.size ∧ i = .int .i64 k ∧ n = .int .u64 (Crc.more z (s.data.toList.take k)).toNat) (fun _ _ i => s.size - (intOf i).toNat)
  case atStart => exact ⟨0, by omega, rfl, rfl⟩
  case round =>
    obtain ⟨k, hk, rfl, rfl⟩ := hrel
    generalize hy : Crc.more z (s.data.toList.take k) = y
    have Hy := Lib.hid hy; clear hy
    by_cases hlt : k < s.size
    · have hb := Crc.byte_xor y s[k]
      generalize hv : y ^^^ Crc.byte s[k] = v at hb
      have Hv := Lib.hid hv; clear hv
      go_wp2_with (go_at_call 134; (with_reducible refine (eight_any _ _).mono ?_); rintro e w' ⟨rfl, rfl⟩)
      go_round
      case rel => exact ⟨k + 1, by omega, by go_num, by rw [Crc.more_take _ _ _ hlt, Hy.out, Hv.out]⟩
      case measure => simp [intOf]; omega
    · have hk' : k = s.size := by omega
      subst hk'
      have hn := Crc.not_bv y
      generalize hv : ~~~ y = v at hn
      have Hv := Lib.hid hv; clear hv
      go_wp2
      go_ret
      exact ⟨by rw [Crc.sum, ← Crc.take_all s, Hz.out, Hy.out, Hv.out]; rfl, rfl⟩

set_option maxHeartbeats 400000 in
theorem sum_any (s : ByteArray) (hs : s.size ≤ maxLen) (w : World) :
    Calls Try.prog 101 #[.string s] w fun e w' => e = .returned (.int .u64 (Crc.sum 0#64 s.data.toList).toNat) ∧ w = w' := by
  go_enter Try.func101, Try.ntmps101
  go_wp2_with (go_at_call 125; refine (more_any 0#64 _ hs _).mono ?_; rintro e w' ⟨rfl, rfl⟩)
  go_ret
  exact ⟨rfl, rfl⟩

end Go.Proofs.Ytkngadbeflepoaa
