/- The document's May of a command. No condition. -/
import Derived.Test.YtimhpncdlaildaaKvD
namespace Go.Proofs.Ytimhpncdlaildaa
open Go.RowKit

theorem toList_iff (b : ByteArray) : b.toList = [] ↔ b.size = 0 := by
  rw [ByteArray.toList_eq, show b.size = b.data.size from rfl, ← Array.length_toList]
  exact List.length_eq_zero_iff.symm
/-- May, as the document says it. -/
def may09 (c : CmdV) : Bool :=
  !(decide (3 < (c.client.toNat : Int)) || decide ((c.seq.toNat : Int) < 1) || decide (16 < (c.key.size : Int)) || decide (64 < (c.old.size : Int)) || decide (64 < (c.fresh.size : Int))) &&
    (if ((c.kind.toNat : Int) == 1) = true ∨ ((c.kind.toNat : Int) == 3) = true then decide (¬ c.key.toList = []) && decide (c.old.toList = []) && decide (c.fresh.toList = []) && ((c.set.toNat : Int) == 0)
     else if ((c.kind.toNat : Int) == 2) = true then decide (¬ c.key.toList = []) && decide (c.old.toList = []) && ((c.set.toNat : Int) == 0)
     else if ((c.kind.toNat : Int) == 4) = true then decide (¬ c.key.toList = []) && ((c.set.toNat : Int) == 0)
     else if ((c.kind.toNat : Int) == 5) = true then decide (c.key.toList = []) && decide (c.old.toList = []) && decide (c.fresh.toList = []) else false)
theorem may09_is (c : CmdV) : may09 c = mayC c := by
  unfold may09 mayC
  rw [Bool.eq_iff_iff]
  simp only [toList_iff]
  generalize c.key.size = nk
  generalize c.old.size = no
  generalize c.fresh.size = nf
  generalize c.client.toNat = ncl
  generalize c.seq.toNat = nsq
  generalize c.set.toNat = nst
  by_cases h1 : c.kind = 1
  · simp [h1, hasOf, mostOf]
    omega
  by_cases h2 : c.kind = 2
  · simp [h2, hasOf, mostOf]
    omega
  by_cases h3 : c.kind = 3
  · simp [h3, hasOf, mostOf]
    omega
  by_cases h4 : c.kind = 4
  · simp [h4, hasOf, mostOf]
    omega
  by_cases h5 : c.kind = 5
  · simp [h5, hasOf, mostOf]
    omega
  have g : ∀ k : UInt8, c.kind ≠ k → ¬ (c.kind.toNat : Int) = (k.toNat : Int) := fun k h e => h (UInt8.toNat_inj.1 (by omega))
  have g1 := g 1 h1
  have g2 := g 2 h2
  have g3 := g 3 h3
  have g4 := g 4 h4
  have g5 := g 5 h5
  simp at g1 g2 g3 g4 g5
  simp [h1, h2, h3, h4, h5, hasOf, g1, g2, g3, g4, g5]

set_option maxRecDepth 100000 in
set_option maxHeartbeats 8000000 in
theorem may09_any (c : CmdV) (w : World) : Calls Try.prog 78 #[.agg (cmdCells c).toArray] w fun e w' => e = .returned (.bool (mayC c)) ∧ Below w.heap.size w w' := by
  obtain ⟨B, hB⟩ : ∃ B, mayC c = B := ⟨_, rfl⟩
  rw [hB]
  rw [← may09_is] at hB
  have HB := Lib.hid hB; clear hB
  have hc1 := CmdAt.new w c
  have hb1 := (Below.refl w.heap.size w).alloc (Nat.le_refl _) (.cells (cmdCells c).toArray 103)
  have HC := Lib.hid hc1; clear hc1
  have Hb := Lib.hid hb1; clear hb1
  rw [cmd_eta]
  go_enter Try.func78, Try.ntmps78
  go_upto_region 1 with fail
  change Code.wp _ _ _ _ (w.alloc (.cells (cmdCells c).toArray 103))
  generalize w.alloc (.cells (cmdCells c).toArray 103) = w1 at *
  obtain ⟨d0, d1, d2, d3, d4, d5, d6⟩ := HC.out.cells
  go_wp2_with fail
  all_goals (go_ret; exact ⟨by rw [← HB.out]; first | (simp [may09, *]; done) | (simp [may09, *]; intro _; omega) | (simp [may09, *]; rw [Bool.eq_iff_iff]; simp [*]; done) | (simp [may09, *]; rw [Bool.eq_iff_iff]; simp [*]; omega), Hb.out⟩)
end Go.Proofs.Ytimhpncdlaildaa
