/- The reference's steps; a number of 64 bits. -/
import Derived.Test.YtljolmidnckciaaDoorCrcW
import Derived.OpenShut
namespace Go.Proofs.YtljolmidnckciaaDoor
open Go.RowKit

set_option maxHeartbeats 400000 in
theorem steps_any (x : BitVec 64) (n : Nat) (hn : n ≤ 9223372036854775806) (w : World) :
    Calls Tryd.prog 14 #[.int .u64 (x.toNat : Int), .int .i64 (n : Int)] w fun e w' => e = .returned (.int .u64 (Crc.sts n x).toNat) ∧ w = w' := by
  go_enter Tryd.func14, Tryd.ntmps14
  go_wp2
  go_loop [0, 5] (fun m i => ∃ k : Nat, k ≤ n ∧ i = .int .i64 k ∧ m = .int .u64 (Crc.sts k x).toNat) (fun _ i => n - (intOf i).toNat)
  case atStart => exact ⟨0, by omega, rfl, rfl⟩
  case round =>
    obtain ⟨k, hk, rfl, rfl⟩ := hrel
    generalize hy : Crc.sts k x = y
    have Hy := Lib.hid hy; clear hy
    have hlt := y.isLt
    go_wp2
    · go_round
      case rel => exact ⟨k + 1, by omega, by go_num, by rw [Crc.st_odd' _ ‹_›, ← Hy.out]; rfl⟩
      case measure => simp [intOf]; omega
    · go_round
      case rel => exact ⟨k + 1, by omega, by go_num, by rw [Crc.st_even' _ ‹_›, ← Hy.out]; rfl⟩
      case measure => simp [intOf]; omega
    · have h8 : k = n := by omega
      subst h8
      go_ret
      exact ⟨by rw [Hy.out]; rfl, rfl⟩

theorem steps_8 (x : BitVec 64) (w : World) :
    Calls Tryd.prog 14 #[.int .u64 (x.toNat : Int), .int .i64 8] w fun e w' => e = .returned (.int .u64 (Crc.sts 8 x).toNat) ∧ w = w' :=
  steps_any x 8 (by omega) w

theorem u64_of {n : Int} (h : (Lit.int .u64 n).wf = true) : ∃ x : BitVec 64, n = (x.toNat : Int) := by
  have h' : 0 ≤ n ∧ n < 18446744073709551616 := by
    have := bounds_u64 h
    omega
  refine ⟨BitVec.ofNat 64 n.toNat, ?_⟩
  simp
  omega

end Go.Proofs.YtljolmidnckciaaDoor
