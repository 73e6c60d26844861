/- The reference's steps and checksum, beside the program's. No condition but the reach of a string. -/
import Derived.Test.YtimhpncdlaildaaCrcX
namespace Go.Proofs.Ytimhpncdlaildaa
open Go.RowKit

set_option maxHeartbeats 400000 in
theorem steps_any (x : BitVec 64) (n : Nat) (hn : n ≤ 9223372036854775806) (w : World) :
    Calls Try.prog 91 #[.int .u64 (x.toNat : Int), .int .i64 (n : Int)] w fun e w' => e = .returned (.int .u64 (Crc.sts n x).toNat) ∧ w = w' := by
  go_enter Try.func91, Try.ntmps91
  go_wp2
  go_loop [0, 5] (fun m i => ∃ k : Nat, k ≤ n ∧ i = .int .i64 k ∧ m = .int .u64 (Crc.sts k x).toNat) (fun _ i => n - (intOf i).toNat)
  case atStart => exact ⟨0, by omega, rfl, rfl⟩
  case round =>
    obtain ⟨k, hk, rfl, rfl⟩ := hrel
    generalize hy : Crc.sts k x = y
    have Hy := Lib.hid hy; clear hy
    have hlt := y.isLt
    go_wp2
    · go_round
      case rel => exact ⟨k + 1, by omega, by go_num, by rw [Crc.st_odd' _ ‹_›, ← Hy.out]; rfl⟩
      case measure => simp [intOf]; omega
    · go_round
      case rel => exact ⟨k + 1, by omega, by go_num, by rw [Crc.st_even' _ ‹_›, ← Hy.out]; rfl⟩
      case measure => simp [intOf]; omega
    · have h8 : k = n := by omega
      subst h8
      go_ret
      exact ⟨by rw [Hy.out]; rfl, rfl⟩

theorem steps_8 (x : BitVec 64) (w : World) :
    Calls Try.prog 91 #[.int .u64 (x.toNat : Int), .int .i64 8] w fun e w' => e = .returned (.int .u64 (Crc.sts 8 x).toNat) ∧ w = w' :=
  steps_any x 8 (by omega) w

set_option maxHeartbeats 400000 in
theorem refmore_any (x : BitVec 64) (s : ByteArray) (hs : s.size ≤ maxLen) (w : World) :
    Calls Try.prog 81 #[.int .u64 (x.toNat : Int), .string s] w fun e w' => e = .returned (.int .u64 (Crc.sum x s.data.toList).toNat) ∧ w = w' := by
  unfold maxLen at hs
  have hn := Crc.not_bv x
  generalize hz : ~~~ x = z at hn
  have Hz := Lib.hid hz; clear hz
  go_enter Try.func81, Try.ntmps81
  go_wp2
  clear hn
  go_loop [5, 6] (fun n i => ∃ k : Nat, k ≤ s.size ∧ i = .int .i64 k ∧ n = .int .u64 (Crc.more z (s.data.toList.take k)).toNat) (fun _ i => s.size - (intOf i).toNat)
  case atStart => exact ⟨0, by omega, rfl, rfl⟩
  case round =>
    obtain ⟨k, hk, rfl, rfl⟩ := hrel
    generalize hy : Crc.more z (s.data.toList.take k) = y
    have Hy := Lib.hid hy; clear hy
    by_cases hlt : k < s.size
    · have hb := Crc.byte_xor y s[k]
      generalize hv : y ^^^ Crc.byte s[k] = v at hb
      have Hv := Lib.hid hv; clear hv
      go_wp2_with (go_at_call 91; (with_reducible refine (steps_8 _ _).mono ?_); rintro e w' ⟨rfl, rfl⟩)
      go_round
      case rel => exact ⟨k + 1, by omega, by go_num, by rw [Crc.more_take _ _ _ hlt, Hy.out, Hv.out]⟩
      case measure => simp [intOf]; omega
    · have hk' : k = s.size := by omega
      subst hk'
      have hn := Crc.not_bv y
      generalize hv : ~~~ y = v at hn
      have Hv := Lib.hid hv; clear hv
      go_wp2
      go_ret
      exact ⟨by rw [Crc.sum, ← Crc.take_all s, Hz.out, Hy.out, Hv.out]; rfl, rfl⟩

set_option maxHeartbeats 400000 in
theorem refsum_any (s : ByteArray) (hs : s.size ≤ maxLen) (w : World) :
    Calls Try.prog 65 #[.string s] w fun e w' => e = .returned (.int .u64 (Crc.sum 0#64 s.data.toList).toNat) ∧ w = w' := by
  go_enter Try.func65, Try.ntmps65
  go_wp2_with (go_at_call 81; refine (refmore_any 0#64 _ hs _).mono ?_; rintro e w' ⟨rfl, rfl⟩)
  go_ret
  exact ⟨rfl, rfl⟩

end Go.Proofs.Ytimhpncdlaildaa
