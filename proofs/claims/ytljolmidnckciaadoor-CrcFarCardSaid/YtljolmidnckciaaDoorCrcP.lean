/- The walks of the laws CrcJoins, CrcParts and CrcFar. Condition: the library's table holds its numbers (it is listed on the row). -/
import Derived.Test.YtljolmidnckciaaDoorCrcJ
import Derived.OpenShut
namespace Go.Proofs.YtljolmidnckciaaDoor
open Go.RowKit

namespace Crc
theorem sum_append (a b : List UInt8) : sts (8 * b.length) (sum 0#64 a) ^^^ sum 0#64 b = sum 0#64 (a ++ b) := by
  unfold sum
  rw [more_append]
  generalize hm : more (~~~ 0#64) a = m
  have e : m = ~~~ 0#64 ^^^ ~~~ m := by
    apply BitVec.eq_of_getLsbD_eq; intro i hi
    simp only [BitVec.getLsbD_xor, BitVec.getLsbD_not, hi, decide_true, Bool.true_and, BitVec.getLsbD_zero]
    cases m.getLsbD i <;> rfl
  conv => rhs; rw [e, more_state]
  generalize sts (8 * b.length) (~~~ m) = u
  generalize more (~~~ 0#64) b = v
  apply BitVec.eq_of_getLsbD_eq; intro i hi
  simp only [BitVec.getLsbD_xor, BitVec.getLsbD_not, hi, decide_true, Bool.true_and]
  cases u.getLsbD i <;> cases v.getLsbD i <;> rfl
theorem sum_more (a b : List UInt8) : sum (sum 0#64 a) b = sum 0#64 (a ++ b) := by
  unfold sum
  rw [more_append]
  congr 2
  simp
theorem join_join (x y z : BitVec 64) (j k : Nat) : sts (8 * (j + k)) x ^^^ (sts (8 * k) y ^^^ z) = sts (8 * k) (sts (8 * j) x ^^^ y) ^^^ z := by
  rw [sts_xor, ← sts_add, BitVec.xor_assoc]
  congr 2
  omega
end Crc

set_option maxHeartbeats 400000 in
theorem refjoin_any (a b : BitVec 64) (n : Int) (hn1 : -9223372036854775808 ≤ n) (hn2 : n ≤ 5000) (w : World) :
    Calls Tryd.prog 8 #[.int .u64 (a.toNat : Int), .int .u64 (b.toNat : Int), .int .i64 n] w fun e w' => e = .returned (.int .u64 ((Crc.sts (8 * n.toNat) a ^^^ b).toNat : Int)) ∧ w = w' := by
  by_cases hn : n < 0
  · have hz : n.toNat = 0 := by omega
    have hx := Crc.xor_bv a b
    have hst := steps_any a 0 (by omega)
    rw [hz]
    have Hz := Lib.hid hz; clear hz
    have e : Crc.sts (8 * 0) a = a := rfl
    rw [e]
    clear e
    have HS : Hid (∀ w, Calls Tryd.prog 14 #[.int .u64 (a.toNat : Int), .int .i64 0] w fun e w' => e = .returned (.int .u64 (a.toNat : Int)) ∧ w = w') := hst
    clear hst
    go_enter Tryd.func8, Tryd.ntmps8
    go_wp2_with (go_at_call 14; (with_reducible refine (HS.out _).mono ?_); rintro e w' ⟨rfl, rfl⟩)
    go_ret
    exact ⟨rfl, rfl⟩
  · obtain ⟨N, rfl⟩ := Int.eq_ofNat_of_zero_le (Int.not_lt.1 hn)
    rw [Int.toNat_natCast]
    have hx := Crc.xor_bv (Crc.sts (8 * N) a) b
    have hst := steps_any a (8 * N) (by omega)
    have e8 : ((8 * N : Nat) : Int) = 8 * (N : Int) := by omega
    rw [e8] at hst
    generalize Crc.sts (8 * N) a = y at *
    have HS := Lib.hid hst; clear hst e8
    go_enter Tryd.func8, Tryd.ntmps8
    go_wp2_with (go_at_call 14; (with_reducible refine (HS.out _).mono ?_); rintro e w' ⟨rfl, rfl⟩)
    go_ret
    exact ⟨rfl, rfl⟩

theorem i64_of {n : Int} (h : (Lit.int .i64 n).wf = true) : -9223372036854775808 ≤ n ∧ n ≤ 9223372036854775807 := bounds_i64 h

set_option maxHeartbeats 400000 in
theorem crcJoins_any (aa bb n : Int) (ha : (Lit.int .u64 aa).wf = true) (hb : (Lit.int .u64 bb).wf = true) (hn : (Lit.int .i64 n).wf = true) (w : World) (ht : Tab w) :
    Calls Tryd.prog 3 #[.int .u64 aa, .int .u64 bb, .int .i64 n] w fun e w' => e = .returned (.bool true) ∧ Below w.heap.size w w' := by
  obtain ⟨a, rfl⟩ := u64_of ha
  obtain ⟨b, rfl⟩ := u64_of hb
  obtain ⟨hn1, hn2⟩ := i64_of hn
  clear ha hb hn
  by_cases h : (5000 : Int) < n
  · go_enter Tryd.func3, Tryd.ntmps3
    go_wp2_with (go_at_call 6; refine (wakes_any _).mono ?_; rintro e w' ⟨rfl, rfl⟩)
    go_ret
    exact ⟨rfl, Below.refl _ _⟩
  · have hj := join_any a b n hn1 hn2 w ht
    have hr := refjoin_any a b n hn1 (by omega)
    generalize Crc.sts (8 * n.toNat) a ^^^ b = y at *
    have hyy : ((y.toNat : Int) == (y.toNat : Int)) = true := by simp
    have HJ := Lib.hid hj; clear hj
    have HR := Lib.hid hr; clear hr
    clear ht
    go_enter Tryd.func3, Tryd.ntmps3
    go_wp2_with (first
      | (go_at_call 6; refine (wakes_any _).mono ?_; rintro e w' ⟨rfl, rfl⟩)
      | (go_at_call 7; (with_reducible refine HJ.out.mono ?_); rintro e w1 ⟨rfl, hb1⟩)
      | (go_at_call 8; (with_reducible refine (HR.out _).mono ?_); rintro e w' ⟨rfl, rfl⟩))
    go_ret
    exact ⟨rfl, hb1⟩

/-- Join, in a world that has grown out of w: what it answers under a name. -/
theorem join_rel (a b : BitVec 64) (n : Int) (hn1 : -9223372036854775808 ≤ n) (hn2 : n ≤ 9223372036854775807) {y : BitVec 64} (hy : Crc.sts (8 * n.toNat) a ^^^ b = y) {w : World} (ht : Tab w) :
    ∀ w1, Below w.heap.size w w1 → Calls Tryd.prog 7 #[.int .u64 (a.toNat : Int), .int .u64 (b.toNat : Int), .int .i64 n] w1 fun e w' => e = .returned (.int .u64 (y.toNat : Int)) ∧ Below w.heap.size w w' := fun w1 hb =>
  (join_any a b n hn1 hn2 w1 (ht.below hb)).mono fun e w' h => ⟨by rw [h.1, hy], hb.trans (h.2.mono hb.size)⟩
theorem join_rel0 (a : BitVec 64) (n : Int) (hn1 : -9223372036854775808 ≤ n) (hn2 : n ≤ 9223372036854775807) {y : BitVec 64} (hy : Crc.sts (8 * n.toNat) a = y) {w : World} (ht : Tab w) :
    ∀ w1, Below w.heap.size w w1 → Calls Tryd.prog 7 #[.int .u64 (a.toNat : Int), .int .u64 0, .int .i64 n] w1 fun e w' => e = .returned (.int .u64 (y.toNat : Int)) ∧ Below w.heap.size w w' :=
  join_rel a 0#64 n hn1 hn2 (by rw [hy]; simp) ht

set_option maxHeartbeats 1000000 in
theorem crcFar_any (aa bb nn mm : Int) (ha : (Lit.int .u64 aa).wf = true) (hb : (Lit.int .u64 bb).wf = true) (hn : (Lit.int .u64 nn).wf = true) (hm : (Lit.int .u64 mm).wf = true) (w : World) (ht : Tab w) :
    Calls Tryd.prog 5 #[.int .u64 aa, .int .u64 bb, .int .u64 nn, .int .u64 mm] w fun e w' => e = .returned (.bool true) ∧ Below w.heap.size w w' := by
  obtain ⟨a, rfl⟩ := u64_of ha
  obtain ⟨b, rfl⟩ := u64_of hb
  have hnb := bounds_u64 hn
  have hmb := bounds_u64 hm
  obtain ⟨x, hx⟩ : ∃ x : Nat, nn % 1152921504606846976 = (x : Int) := ⟨(nn % 1152921504606846976).toNat, by omega⟩
  obtain ⟨y, hy⟩ : ∃ y : Nat, mm % 1152921504606846976 = (y : Int) := ⟨(mm % 1152921504606846976).toNat, by omega⟩
  have hxb : (x : Int) < 1152921504606846976 := by omega
  have hyb : (y : Int) < 1152921504606846976 := by omega
  have hn0 : 0 ≤ nn := hnb.1
  have hm0 : 0 ≤ mm := hmb.1
  clear ha hb hn hm hnb hmb
  obtain ⟨p1, hp1⟩ : ∃ p1, Crc.sts (8 * x) a = p1 := ⟨_, rfl⟩
  obtain ⟨p2, hp2⟩ : ∃ p2, Crc.sts (8 * y) a = p2 := ⟨_, rfl⟩
  obtain ⟨t, ht1⟩ : ∃ t, Crc.sts (8 * y) p1 ^^^ b = t := ⟨_, rfl⟩
  have ht2 : Crc.sts (8 * x) p2 ^^^ b = t := by
    rw [← ht1, ← hp1, ← hp2, ← Crc.sts_add, ← Crc.sts_add, Nat.add_comm]
  have ht3 : Crc.sts (8 * (x + y)) a ^^^ b = t := by
    rw [← ht1, ← hp1, ← Crc.sts_add]
    congr 2
    omega
  have H1 := Lib.hid (join_rel0 a (x : Int) (by omega) (by omega) (by rw [Int.toNat_natCast]; exact hp1) (y := p1) ht)
  have H2 := Lib.hid (join_rel p1 b (y : Int) (by omega) (by omega) (by rw [Int.toNat_natCast]; exact ht1) (y := t) ht)
  have H3 := Lib.hid (join_rel a b ((x : Int) + (y : Int)) (by omega) (by omega) (by rw [show ((x : Int) + (y : Int)).toNat = x + y from by omega]; exact ht3) (y := t) ht)
  have H4 := Lib.hid (join_rel0 a (y : Int) (by omega) (by omega) (by rw [Int.toNat_natCast]; exact hp2) (y := p2) ht)
  have H5 := Lib.hid (join_rel p2 b (x : Int) (by omega) (by omega) (by rw [Int.toNat_natCast]; exact ht2) (y := t) ht)
  have H6 := Lib.hid (join_rel a b (-(x : Int) - 1) (by omega) (by omega) (y := a ^^^ b) (by rw [show (-(x : Int) - 1).toNat = 0 from by omega]; rfl) ht)
  have hxor := Crc.xor_bv a b
  generalize a ^^^ b = ab at *
  have htt : ((t.toNat : Int) == (t.toNat : Int)) = true := by simp
  have htt' : ((ab.toNat : Int) == (ab.toNat : Int)) = true := by simp
  have hb0 := Below.refl w.heap.size w
  clear hp1 hp2 ht1 ht2 ht3 ht
  go_enter Tryd.func5, Tryd.ntmps5
  go_wp2_with (first
    | (go_at_call 6; refine (wakes_any _).mono ?_; rintro e w' ⟨rfl, rfl⟩)
    | ((with_reducible refine (H1.out _ (by assumption)).mono ?_); rintro e w1 ⟨rfl, hb1⟩)
    | ((with_reducible refine (H2.out _ (by assumption)).mono ?_); rintro e w1 ⟨rfl, hb1⟩)
    | ((with_reducible refine (H3.out _ (by assumption)).mono ?_); rintro e w1 ⟨rfl, hb1⟩)
    | ((with_reducible refine (H4.out _ (by assumption)).mono ?_); rintro e w1 ⟨rfl, hb1⟩)
    | ((with_reducible refine (H5.out _ (by assumption)).mono ?_); rintro e w1 ⟨rfl, hb1⟩)
    | ((with_reducible refine (H6.out _ (by assumption)).mono ?_); rintro e w1 ⟨rfl, hb1⟩))
  go_ret
  exact ⟨rfl, by assumption⟩

set_option maxHeartbeats 2000000 in
theorem crcParts_any (a b c : ByteArray) (ha : a.size ≤ maxLen) (hb : b.size ≤ maxLen) (hc : c.size ≤ maxLen) (w : World) (ht : Tab w) :
    Calls Tryd.prog 4 #[.string a, .string b, .string c] w fun e w' => e = .returned (.bool true) ∧ Below w.heap.size w w' := by
  have hb0 := Below.refl w.heap.size w
  unfold maxLen at ha hb hc
  by_cases h1 : (3000 : Int) < a.size
  · clear ht
    go_enter Tryd.func4, Tryd.ntmps4
    go_wp2_with (go_at_call 6; refine (wakes_any _).mono ?_; rintro e w' ⟨rfl, rfl⟩)
    go_ret
    exact ⟨rfl, hb0⟩
  by_cases h2 : (3000 : Int) < b.size
  · clear ht
    go_enter Tryd.func4, Tryd.ntmps4
    go_wp2_with (go_at_call 6; refine (wakes_any _).mono ?_; rintro e w' ⟨rfl, rfl⟩)
    go_ret
    exact ⟨rfl, hb0⟩
  by_cases h3 : (3000 : Int) < c.size
  · clear ht
    go_enter Tryd.func4, Tryd.ntmps4
    go_wp2_with (go_at_call 6; refine (wakes_any _).mono ?_; rintro e w' ⟨rfl, rfl⟩)
    go_ret
    exact ⟨rfl, hb0⟩
  have e1 := Crc.sum_append a.data.toList b.data.toList
  have e2 := Crc.sum_append (a.data.toList ++ b.data.toList) c.data.toList
  have e3 := Crc.sum_append b.data.toList c.data.toList
  have e4 := Crc.sum_more a.data.toList b.data.toList
  have e5 := Crc.sum_more (a.data.toList ++ b.data.toList) c.data.toList
  have e6 : Crc.sts (8 * (b.size + c.size)) (Crc.sum 0#64 a.data.toList) ^^^ (Crc.sts (8 * c.size) (Crc.sum 0#64 b.data.toList) ^^^ Crc.sum 0#64 c.data.toList) = Crc.sum 0#64 (a.data.toList ++ b.data.toList ++ c.data.toList) := by
    rw [Crc.join_join, ← e2, ← e1]; rfl
  have hla : a.data.toList.length = a.size := by simp
  have hlb : b.data.toList.length = b.size := by simp
  have hlc : c.data.toList.length = c.size := by simp
  rw [hlb] at e1
  rw [hlc] at e2 e3
  rw [e3] at e6
  have s1 := sum_any a (by unfold maxLen; omega)
  have s2 := sum_any b (by unfold maxLen; omega)
  have s3 := sum_any c (by unfold maxLen; omega)
  have s4 := sum_any (a ++ b ++ c) (by unfold maxLen; simp; omega)
  have e0 : (a ++ b ++ c).data.toList = a.data.toList ++ b.data.toList ++ c.data.toList := by simp
  rw [e0] at s4
  generalize Crc.sum 0#64 (a.data.toList ++ b.data.toList ++ c.data.toList) = all at *
  generalize Crc.sum 0#64 (a.data.toList ++ b.data.toList) = ab at *
  generalize Crc.sum 0#64 (b.data.toList ++ c.data.toList) = bc at *
  have m1 := more_any (Crc.sum 0#64 a.data.toList) b (by unfold maxLen; omega)
  have m2 := more_any ab c (by unfold maxLen; omega)
  rw [e4] at m1
  rw [e5] at m2
  generalize Crc.sum 0#64 a.data.toList = x at *
  generalize Crc.sum 0#64 b.data.toList = y at *
  generalize Crc.sum 0#64 c.data.toList = z at *
  have j1 := join_rel x y (b.size : Int) (by omega) (by omega) (by rw [Int.toNat_natCast]; exact e1) (y := ab) ht
  have j2 := join_rel ab z (c.size : Int) (by omega) (by omega) (by rw [Int.toNat_natCast]; exact e2) (y := all) ht
  have j3 := join_rel y z (c.size : Int) (by omega) (by omega) (by rw [Int.toNat_natCast]; exact e3) (y := bc) ht
  have j4 := join_rel x bc ((b.size : Int) + (c.size : Int)) (by omega) (by omega) (by rw [show ((b.size : Int) + (c.size : Int)).toNat = b.size + c.size from by omega]; exact e6) (y := all) ht
  have j5 := join_rel0 x 0 (by omega) (by omega) rfl (y := x) ht
  have t1 : ((all.toNat : Int) == (all.toNat : Int)) = true := by simp
  have t2 : ((x.toNat : Int) == (x.toNat : Int)) = true := by simp
  clear e0 e1 e2 e3 e4 e5 e6 hla hlb hlc ht
  have S1 := Lib.hid s1; clear s1
  have S2 := Lib.hid s2; clear s2
  have S3 := Lib.hid s3; clear s3
  have S4 := Lib.hid s4; clear s4
  have M1 := Lib.hid m1; clear m1
  have M2 := Lib.hid m2; clear m2
  have J1 := Lib.hid j1; clear j1
  have J2 := Lib.hid j2; clear j2
  have J3 := Lib.hid j3; clear j3
  have J4 := Lib.hid j4; clear j4
  have J5 := Lib.hid j5; clear j5
  go_enter Tryd.func4, Tryd.ntmps4
  go_wp2_with (first
    | (go_at_call 6; refine (wakes_any _).mono ?_; rintro e w' ⟨rfl, rfl⟩)
    | ((with_reducible refine (S1.out _).mono ?_); rintro e w1 ⟨rfl, rfl⟩)
    | ((with_reducible refine (S2.out _).mono ?_); rintro e w1 ⟨rfl, rfl⟩)
    | ((with_reducible refine (S3.out _).mono ?_); rintro e w1 ⟨rfl, rfl⟩)
    | ((with_reducible refine (S4.out _).mono ?_); rintro e w1 ⟨rfl, rfl⟩)
    | ((with_reducible refine (M1.out _).mono ?_); rintro e w1 ⟨rfl, rfl⟩)
    | ((with_reducible refine (M2.out _).mono ?_); rintro e w1 ⟨rfl, rfl⟩)
    | ((with_reducible refine (J1.out _ (by assumption)).mono ?_); rintro e w1 ⟨rfl, hb1⟩)
    | ((with_reducible refine (J2.out _ (by assumption)).mono ?_); rintro e w1 ⟨rfl, hb1⟩)
    | ((with_reducible refine (J3.out _ (by assumption)).mono ?_); rintro e w1 ⟨rfl, hb1⟩)
    | ((with_reducible refine (J4.out _ (by assumption)).mono ?_); rintro e w1 ⟨rfl, hb1⟩)
    | ((with_reducible refine (J5.out _ (by assumption)).mono ?_); rintro e w1 ⟨rfl, hb1⟩))
  go_ret
  exact ⟨rfl, by assumption⟩
end Go.Proofs.YtljolmidnckciaaDoor
