/- The library's TrailingZeros64, the matrix' times, the closure that squares, and Join. Condition: the library's table holds its numbers (it is listed on the row). -/
import Derived.Test.YtljolmidnckciaaDoorCrcS
import Derived.Test.YtljolmidnckciaaDoorCrcL
import Derived.Test.YtljolmidnckciaaDoorReg
import Derived.Lib.TrailingZeros
namespace Go.Proofs.YtljolmidnckciaaDoor
open Go.RowKit

/-- The library's table lies in its variable. -/
def Tab (w : World) : Prop := ∀ k, k < 64 → w.cell? ⟨0, k, none⟩ = some (.int .u8 ((Lib.deBruijn64tab.getD k 0 : Nat) : Int))

namespace Crc
theorem neg_bv (x : BitVec 64) : IntKind.u64.wrap (-(x.toNat : Int)) = ((-x).toNat : Int) := by
  have := x.isLt
  rw [IntKind.wrap_u64, BitVec.toNat_neg]
  omega
theorem mul_bv (x y : BitVec 64) : IntKind.u64.wrap ((x.toNat : Int) * (y.toNat : Int)) = ((x * y).toNat : Int) := by
  rw [IntKind.wrap_u64, BitVec.toNat_mul]
  simp
theorem low_bit (x : BitVec 64) (h : x ≠ 0#64) : (x &&& -x).toNat = 2 ^ Lib.ctz 64 x.toNat ∧ Lib.ctz 64 x.toNat < 64 := by
  have h0 : x.toNat ≠ 0 := fun e => h (BitVec.eq_of_toNat_eq (by simpa using e))
  have := Lib.lowest_bit 64 x.toNat h0 x.isLt
  refine ⟨?_, this.2⟩
  rw [BitVec.toNat_and, BitVec.toNat_neg, ← this.1]
  congr 1
  have := x.isLt
  omega
theorem tz_index (x : BitVec 64) (h : x ≠ 0#64) : ∃ i : Nat, i < 64 ∧ IntKind.u64.wrap (bits .and .u64 (x.toNat : Int) (IntKind.u64.wrap (-(x.toNat : Int))) * 285870213051353865) / 288230376151711744 = (i : Int) ∧
    Lib.deBruijn64tab.getD i 0 = Lib.ctz 64 x.toNat := by
  obtain ⟨h1, h2⟩ := low_bit x h
  have h3 := Lib.deBruijn64_at _ h2
  refine ⟨_, h3.1, ?_, h3.2⟩
  rw [neg_bv, and_bv, h1, IntKind.wrap_u64]
  generalize 2 ^ Lib.ctz 64 x.toNat = y
  omega
theorem one_shl (k : Nat) (h : k < 64) : (1#64 <<< k).toNat = 2 ^ k := by
  rw [BitVec.toNat_shiftLeft, Nat.shiftLeft_eq]
  have : (2 : Nat) ^ k < 2 ^ 64 := Nat.pow_lt_pow_right (by omega) h
  simp [Nat.mod_eq_of_lt this]
theorem sub_one (x : BitVec 64) (h : x ≠ 0#64) : (x - 1#64).toNat = x.toNat - 1 := by
  have h0 : x.toNat ≠ 0 := fun e => h (BitVec.eq_of_toNat_eq (by simpa using e))
  have := x.isLt
  rw [BitVec.toNat_sub]
  simp
  omega
theorem low_clear (x : BitVec 64) (h : x ≠ 0#64) : (x &&& (x - 1#64)) ^^^ (1#64 <<< Lib.ctz 64 x.toNat) = x := by
  have h0 : x.toNat ≠ 0 := fun e => h (BitVec.eq_of_toNat_eq (by simpa using e))
  have hx := x.isLt
  have e1 : 1#64 <<< Lib.ctz 64 x.toNat = x &&& -x := by
    apply BitVec.eq_of_toNat_eq
    rw [one_shl _ (low_bit x h).2, (low_bit x h).1]
  have e2 : -x = ~~~ (x - 1#64) := by
    apply BitVec.eq_of_toNat_eq
    rw [BitVec.toNat_neg, BitVec.toNat_not, sub_one x h]
    omega
  rw [e1, e2]
  generalize x - 1#64 = y
  apply BitVec.eq_of_getLsbD_eq
  intro i hi
  simp only [BitVec.getLsbD_xor, BitVec.getLsbD_and, BitVec.getLsbD_not, hi, decide_true, Bool.true_and]
  cases x.getLsbD i <;> cases y.getLsbD i <;> rfl
theorem low_less (x : BitVec 64) (h : x ≠ 0#64) : (x &&& (x - 1#64)).toNat < x.toNat := by
  have h0 : x.toNat ≠ 0 := fun e => h (BitVec.eq_of_toNat_eq (by simpa using e))
  rw [BitVec.toNat_and, sub_one x h]
  have := Nat.and_le_right (n := x.toNat) (m := x.toNat - 1)
  omega
theorem sub_and (x : BitVec 64) (h : x ≠ 0#64) : bits .and .u64 (x.toNat : Int) ((x.toNat : Int) - 1) = ((x &&& (x - 1#64)).toNat : Int) := by
  have h0 : x.toNat ≠ 0 := fun e => h (BitVec.eq_of_toNat_eq (by simpa using e))
  have e : ((x.toNat : Int) - 1) = ((x - 1#64).toNat : Int) := by rw [sub_one x h]; omega
  rw [e, and_bv]
/-- One round of the matrix' times: the lowest bit is taken off, and what its steps make is put over. -/
theorem times_round (K : Nat) (n x : BitVec 64) (h : x ≠ 0#64) :
    sts K n ^^^ sts K x ^^^ sts K (1#64 <<< Lib.ctz 64 x.toNat) = sts K n ^^^ sts K (x &&& (x - 1#64)) := by
  have e := low_clear x h
  generalize x &&& (x - 1#64) = y at *
  generalize 1#64 <<< Lib.ctz 64 x.toNat = z at *
  rw [← e, sts_xor]
  generalize sts K n = a
  generalize sts K y = b
  generalize sts K z = c
  apply BitVec.eq_of_getLsbD_eq
  intro i hi
  simp only [BitVec.getLsbD_xor]
  cases a.getLsbD i <;> cases b.getLsbD i <;> cases c.getLsbD i <;> rfl
end Crc

/-- The cells of the matrix of K steps. -/
def IsMat (K : Nat) (cs : Array Value) : Prop := cs.size = 64 ∧ ∀ i, i < 64 → cs[i]? = some (.int .u64 ((Crc.sts K (1#64 <<< i)).toNat : Int))

theorem Tab.below {w w' : World} (h : Tab w) (hb : Below w.heap.size w w') : Tab w' := fun k hk => by
  have := h k hk
  rw [← this]
  exact hb.cell (World.block_lt_of_cell? w _ this)

set_option maxHeartbeats 400000 in
theorem tz_any (x : BitVec 64) (hx : x ≠ 0#64) (w : World) (ht : Tab w) :
    Calls Tryd.prog 15 #[.int .u64 (x.toNat : Int)] w fun e w' => e = .returned (.int .i64 (Lib.ctz 64 x.toNat : Nat)) ∧ w = w' := by
  have h0 : ((x.toNat : Int) == 0) = false := by
    rw [← Bool.not_eq_true, beq_iff_eq]; intro h; exact hx (BitVec.eq_of_toNat_eq (by simpa using h))
  obtain ⟨i, hi, he, hk⟩ := Crc.tz_index x hx
  have hc := ht i hi
  rw [hk] at hc
  have hk64 := (Crc.low_bit x hx).2
  generalize Lib.ctz 64 x.toNat = k at *
  have hi' : (i : Int) < 64 := by omega
  clear hk ht
  go_enter Tryd.func15, Tryd.ntmps15
  go_wp2
  go_ret
  exact ⟨rfl, rfl⟩
set_option maxHeartbeats 400000 in
theorem times_any (K : Nat) (cs : Array Value) (hm : IsMat K cs) (n : BitVec 64) (w : World) (ht : Tab w) :
    Calls Tryd.prog 13 #[.agg cs, .int .u64 (n.toNat : Int)] w fun e w' => e = .returned (.int .u64 ((Crc.sts K n).toNat : Int)) ∧ Below w.heap.size w w' := by
  go_enter Tryd.func13, Tryd.ntmps13
  go_wp2
  have hb : Below w.heap.size w (w.alloc (Obj.cells cs 31)) := (Below.refl _ _).alloc (Nat.le_refl _) _
  have ht' := ht.below hb
  have hcell : ∀ i, i < 64 → (w.alloc (Obj.cells cs 31)).cell? ⟨w.heap.size, i, none⟩ = some (.int .u64 ((Crc.sts K (1#64 <<< i)).toNat : Int)) := fun i hi => by
    rw [World.cell?_alloc_new]; exact hm.2 i hi
  obtain ⟨W, hW⟩ : ∃ W, W = w.alloc (Obj.cells cs 31) := ⟨_, rfl⟩
  rw [← hW] at hb ht' hcell ⊢
  clear hW
  have Hb := Lib.hid hb; clear hb
  have Ht := Lib.hid ht'; clear ht'
  have Hc := Lib.hid hcell; clear hcell
  clear ht
  go_loop [1, 5] (fun s o => ∃ x : BitVec 64, s = .int .u64 (x.toNat : Int) ∧ o = .int .u64 ((Crc.sts K n ^^^ Crc.sts K x).toNat : Int)) (fun s _ => (intOf s).toNat)
  case atStart => exact ⟨n, rfl, by simp⟩
  case round =>
    obtain ⟨x, rfl, rfl⟩ := hrel
    by_cases hx : x = 0#64
    · subst hx
      have h0 : (((0#64 : BitVec 64).toNat : Int) != 0) = false := by decide
      have e : (Crc.sts K n ^^^ Crc.sts K 0#64) = Crc.sts K n := by rw [Crc.sts_zero]; simp
      rw [e]
      generalize hy : Crc.sts K n = y
      have Hy := Lib.hid hy; clear hy e
      go_wp2
      go_ret
      exact ⟨by rw [Hy.out]; rfl, Hb.out⟩
    · have h0 : ((x.toNat : Int) != 0) = true := by
        rw [bne_iff_ne]; intro h; exact hx (BitVec.eq_of_toNat_eq (by simpa using h))
      have hk := (Crc.low_bit x hx).2
      have hc := Hc.out _ hk
      have hr := Crc.times_round K n x hx
      have hs := Crc.sub_and x hx
      have hl := Crc.low_less x hx
      have htz := fun w ht => tz_any x hx w ht
      have hx0 : 0 < x.toNat := by omega
      generalize Lib.ctz 64 x.toNat = k at *
      generalize x &&& (x - 1#64) = x' at *
      have hxor := Crc.xor_bv (Crc.sts K n ^^^ Crc.sts K x) (Crc.sts K (1#64 <<< k))
      rw [hr] at hxor
      clear hr
      generalize Crc.sts K (1#64 <<< k) = z at *
      generalize hy' : Crc.sts K n ^^^ Crc.sts K x' = y' at *
      have Hy' := Lib.hid hy'; clear hy'
      generalize Crc.sts K n ^^^ Crc.sts K x = y at *
      have hk' : (k : Int) < 64 := by omega
      have Htz := Lib.hid htz; clear htz
      clear hx
      have hw1 : IntKind.u64.wrap ((x.toNat : Int) - 1) = (x.toNat : Int) - 1 := by
        have := x.isLt
        rw [IntKind.wrap_u64]; omega
      go_wp2_with (go_at_call 15; (with_reducible refine (Htz.out _ Ht.out).mono ?_); rintro e w' ⟨rfl, rfl⟩)
      go_round
      case rel => exact ⟨x', rfl, by rw [Hy'.out]⟩
      case measure => simp [intOf]; exact hl
end Go.Proofs.YtljolmidnckciaaDoor
