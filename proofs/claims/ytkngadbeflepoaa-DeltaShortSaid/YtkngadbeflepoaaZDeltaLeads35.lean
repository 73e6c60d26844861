/- Deltas: takeSum. Condition: the reader lies there. -/
import Derived.Test.YtkngadbeflepoaaZDeltaLeads25
import Derived.Test.YtkngadbeflepoaaZDeltaLeads26
namespace Go.Proofs.Ytkngadbeflepoaa
open Go.RowKit
def RdV.sumP (R : RdV) : Nat → Nat × RdV
  | 0 => (0, R)
  | i + 1 => ((R.sumP i).1 + (R.sumP i).2.byte.1.toNat * 2 ^ (8 * i), (R.sumP i).2.byte.2)
theorem sumP_lt (R : RdV) : ∀ i, (R.sumP i).1 < 2 ^ (8 * i)
  | 0 => by simp [RdV.sumP]
  | i + 1 => by
    have h := sumP_lt R i
    have hb := (R.sumP i).2.byte.1.toNat_lt
    unfold RdV.sumP
    rw [show 8 * (i + 1) = 8 * i + 8 by omega, Nat.pow_add]
    generalize 2 ^ (8 * i) = q at *
    have : (R.sumP i).2.byte.1.toNat * q + q ≤ 256 * q := by
      have := Nat.mul_le_mul_right q (show (R.sumP i).2.byte.1.toNat + 1 ≤ 256 by omega)
      rw [Nat.add_mul, Nat.one_mul] at this
      exact this
    rw [Nat.mul_comm q]
    show _ < 256 * q
    omega
theorem or_shift (n b i : Nat) (hn : n < 2 ^ (8 * i)) (hb : b < 256) (hi : i < 8) :
    bits BinOp.or IntKind.u64 (n : Int) (IntKind.u64.wrap (IntKind.u64.wrap (b : Int) * 2 ^ (8 * i))) = ((n + b * 2 ^ (8 * i) : Nat) : Int) := by
  have h1 : b * 2 ^ (8 * i) < 18446744073709551616 := by
    have h2 : (2 : Nat) ^ (8 * i) ≤ 2 ^ 56 := Nat.pow_le_pow_right (by omega) (by omega)
    have h3 := Nat.mul_le_mul (show b ≤ 255 by omega) h2
    have h4 : 255 * (2 : Nat) ^ 56 < 18446744073709551616 := by decide
    omega
  have h5 : n < 18446744073709551616 := by
    have h2 : (2 : Nat) ^ (8 * i) ≤ 2 ^ 56 := Nat.pow_le_pow_right (by omega) (by omega)
    have h4 : (2 : Nat) ^ 56 < 18446744073709551616 := by decide
    omega
  have hw1 : IntKind.u64.wrap (b : Int) = (b : Int) := by rw [IntKind.wrap_u64]; omega
  have hc : ((b : Int) * 2 ^ (8 * i)) = ((b * 2 ^ (8 * i) : Nat) : Int) := by rw [Int.natCast_mul, Int.natCast_pow]; rfl
  have hw2 : IntKind.u64.wrap ((b * 2 ^ (8 * i) : Nat) : Int) = ((b * 2 ^ (8 * i) : Nat) : Int) := by
    generalize b * 2 ^ (8 * i) = q at *
    rw [IntKind.wrap_u64]
    omega
  rw [hw1, hc, hw2]
  have h := or_bv (BitVec.ofNat 64 n) (BitVec.ofNat 64 (b * 2 ^ (8 * i)))
  have e1 : (BitVec.ofNat 64 n).toNat = n := by simp; omega
  have e2 : (BitVec.ofNat 64 (b * 2 ^ (8 * i))).toNat = b * 2 ^ (8 * i) := by
    generalize b * 2 ^ (8 * i) = q at *
    simp
    omega
  rw [BitVec.toNat_or, e1, e2] at h
  rw [h]
  congr 1
  have hk := Nat.two_pow_add_eq_or_of_lt hn b
  rw [Nat.or_comm, Nat.mul_comm b, ← hk, Nat.add_comm]
set_option maxRecDepth 100000 in
set_option maxHeartbeats 8000000 in
theorem takeSum_any (R : RdV) (g : Nat) (w : World) (h : RdAt w g R) :
    Calls Try.prog 94 #[.pointer (some ⟨g, 0, none⟩)] w fun e w' => e = .returned (.int .u64 ((R.sumP 8).1 : Int)) ∧ RdAt w' g (R.sumP 8).2 ∧ Only g w w' := by
  have H := Lib.hid h; clear h
  go_enter Try.func94, Try.ntmps94
  go_wp2_with fail
  go_loopw [3, 5] (fun s3 s5 wr => ∃ i : Nat, i ≤ 8 ∧ s5 = .int .i64 (i : Int) ∧ s3 = .int .u64 ((R.sumP i).1 : Int) ∧ RdAt wr g (R.sumP i).2 ∧ Only g w wr) (fun _ s5 _ => 8 - (intOf s5).toNat)
  case atStart => exact ⟨0, by omega, rfl, rfl, H.out, Only.refl _ _⟩
  case round =>
    obtain ⟨i, hi, rfl, rfl, hr, ho⟩ := hrel
    clear H
    have Ho := Lib.hid ho; clear ho
    by_cases hlt : i < 8
    · have hlt' : (i : Int) < 8 := by omega
      have hsucc := tsucc (n := i) (by omega)
      have Hb := Lib.hid (byte_any (R.sumP i).2 g wr hr); clear hr
      go_wp2_with ((with_reducible refine Hb.out.mono ?_); rintro e w2 ⟨rfl, h2⟩; have H2 := Lib.hid h2; clear h2 Hb)
      have hor := or_shift (R.sumP i).1 (R.sumP i).2.byte.1.toNat i (sumP_lt R i) (R.sumP i).2.byte.1.toNat_lt hlt
      refine ⟨⟨i + 1, hlt, by simp, ?_, H2.out.1, Ho.out.trans H2.out.2⟩, by simp [intOf]; omega⟩
      rw [hor]
      rfl
    · have hlt' : ¬ (i : Int) < 8 := by omega
      have he : i = 8 := by omega
      subst he
      go_wp2_with fail
      go_ret
      exact ⟨rfl, hr, Ho.out⟩
end Go.Proofs.Ytkngadbeflepoaa
namespace Go.Proofs.Ytkngadbeflepoaa
open Go.RowKit
/-- A change's key, as it is read, behind a key. -/
def RdV.chgK (R : RdV) (last : ByteArray) : ByteArray × RdV := (⟨(R.str 16).1.toArray⟩, if slt last ⟨(R.str 16).1.toArray⟩ = true then (R.str 16).2 else (R.str 16).2.fail 4)
/-- Whether there is a value, and the value. -/
def RdV.chgV (R : RdV) : (Bool × ByteArray) × RdV := if (R.below 2).1 = 1 then ((true, ⟨((R.below 2).2.str 64).1.toArray⟩), ((R.below 2).2.str 64).2) else ((false, ByteArray.empty), (R.below 2).2)
def applyD (S : Sh) (k : ByteArray) (b : Bool) (v : ByteArray) : Sh := if b = true then putSh k v S (S.look k) else delSh k S (S.look k)
def RdV.keysPD : Nat → Sh → ByteArray → RdV → Sh × RdV
  | 0, S, _, R => (S, R)
  | n + 1, S, last, R => if (R.chgK last).2.chgV.2.e = 0 then RdV.keysPD n (applyD S (R.chgK last).1 (R.chgK last).2.chgV.1.1 (R.chgK last).2.chgV.1.2) (R.chgK last).1 (R.chgK last).2.chgV.2 else (.nil, (R.chgK last).2.chgV.2)
def RdV.keysD (R : RdV) (S : Sh) : Sh × RdV := RdV.keysPD (R.below 513).1 S ByteArray.empty (R.below 513).2
set_option maxRecDepth 100000 in
set_option maxHeartbeats 16000000 in
theorem takeKeysD_any (R : RdV) (T0 : Tr) (hc0 : T0.cnt ≤ 1000000) (g : Nat) (w : World) (h : RdAt w g R) (h0 : TreeAt w T0) :
    Calls Try.prog 100 #[.pointer (some ⟨g, 0, none⟩), .pointer T0.ptr] w fun e w' => ∃ X, e = .returned (.pointer X.ptr) ∧ TreeAt w' X ∧ X.sh = (R.keysD T0.sh).1 ∧ X.cnt ≤ T0.cnt + 513 ∧ RdAt w' g (R.keysD T0.sh).2 ∧ But g w.heap.size w w' := by
  have hbl : Calls Try.prog 121 #[.pointer (some ⟨g, 0, none⟩), .int .u64 513] w fun e w' => e = .returned (.int .u64 ((R.below 513).1 : Int)) ∧ RdAt w' g (R.below 513).2 ∧ Only g w w' := rbelow_any R 513 g w h
  have hlt := below_lt R 513 (by omega)
  have hg := h.lt
  unfold RdV.keysD
  generalize R.below 513 = X at *
  obtain ⟨n, R1⟩ := X
  simp only at hbl hlt ⊢
  obtain ⟨F, hF⟩ : ∃ F, RdV.keysPD n T0.sh ByteArray.empty R1 = F := ⟨_, rfl⟩
  rw [hF]
  have HF := Lib.hid hF; clear hF
  have Hg := Lib.hid hg; clear hg
  have Hbl := Lib.hid hbl; clear hbl
  have H0 := Lib.hid (And.intro h h0); clear h h0
  obtain ⟨P0, hP0⟩ : ∃ P, T0.ptr = P := ⟨_, rfl⟩
  rw [hP0]
  have HP0 := Lib.hid hP0; clear hP0
  go_enter Try.func100, Try.ntmps100
  go_wp2_with ((with_reducible refine Hbl.out.mono ?_); rintro e w2 ⟨rfl, h2⟩; have H2 := Lib.hid h2; clear h2 Hbl)
  go_loopw [1, 5, 11] (fun s1 s5 s11 wr => ∃ (i : Nat) (T : Tr) (last : ByteArray) (S : RdV), i ≤ n ∧ s11 = .int .u64 (i : Int) ∧ s1 = .pointer T.ptr ∧ s5 = .string last ∧ TreeAt wr T ∧ T.cnt ≤ T0.cnt + i ∧ RdAt wr g S ∧ But g w.heap.size w wr ∧ RdV.keysPD (n - i) T.sh last S = F) (fun _ _ s11 _ => n - (intOf s11).toNat)
  case atStart => exact ⟨0, T0, ByteArray.empty, R1, by omega, rfl, by rw [HP0.out], rfl, TreeAt.only H0.out.1 H2.out.1 H2.out.2 H0.out.2, Nat.le_refl _, H2.out.1, H2.out.2.but _, HF.out⟩
  case round =>
    obtain ⟨i, T, last, S, hi, rfl, rfl, rfl, hat, hcnt, hr, hbut, hfin⟩ := hrel
    clear H2 HF H0 HP0
    have Hat := Lib.hid hat; clear hat
    have Hr := Lib.hid hr; clear hr
    have Hbut := Lib.hid (And.intro hbut hcnt); clear hbut hcnt
    by_cases hlt2 : i < n
    · have hlt' : (i : Int) < (n : Int) := by omega
      have hsucc := tsucc_u (n := i) (by omega)
      rw [show n - i = (n - (i + 1)) + 1 by omega] at hfin
      unfold RdV.keysPD at hfin
      obtain ⟨XP, hXP⟩ : ∃ x, S.chgK last = x := ⟨_, rfl⟩
      rw [hXP] at hfin
      have Hfin := Lib.hid hfin; clear hfin
      unfold RdV.chgK at hXP
      have h16 : Calls Try.prog 122 #[.pointer (some ⟨g, 0, none⟩), .int .i64 16] wr fun e w' => e = .returned (.string ⟨(S.str 16).1.toArray⟩) ∧ RdAt w' g (S.str 16).2 ∧ Only g wr w' := rstr2_any S 16 g (by omega) wr Hr.out
      have hk16 : (S.str 16).1.length ≤ 16 := str_most S 16
      generalize S.str 16 = X at *
      obtain ⟨kl, S1⟩ := X
      simp only at h16 hXP hk16
      have H16 := Lib.hid h16; clear h16
      have hks : (⟨kl.toArray⟩ : ByteArray).size ≤ maxLen := by rw [bs_size]; unfold maxLen; omega
      obtain ⟨k, hk⟩ : ∃ k : ByteArray, ⟨kl.toArray⟩ = k := ⟨_, rfl⟩
      rw [hk] at H16 hXP hks
      clear hk hk16
      have HXP := Lib.hid hXP; clear hXP
      have Hks := Lib.hid hks; clear hks
      have Hbad := Lib.hid (fun (y : World) (hy : RdAt y g S1) => bad_any S1 g y hy)
      go_upto_region 5 with ((with_reducible refine H16.out.mono ?_); rintro e w3 ⟨rfl, h3⟩; have H4 := Lib.hid h3; clear h3 H16)
      obtain ⟨sb, hsb⟩ : ∃ b, slt last k = b := ⟨_, rfl⟩
      have hle : (Op.bytesLess k.toList last.toList || k.toList == last.toList) = !sb := by
        rw [← hsb]
        exact sle_not k last
      have hqx := HXP.out
      rw [hsb] at hqx
      clear hsb
      go_upto_if 17 with fail
      go_cut [17] (fun _ wx => RdAt wx g XP.2 ∧ Only g wr wx)
      case first =>
        cases sb with
        | true =>
          simp only [Bool.not_true] at hle
          simp only [if_true] at hqx
          go_wp2_with fail
          go_meet
          rw [← hqx]
          exact H4.out
        | false =>
          simp only [Bool.not_false] at hle
          simp only [Bool.false_eq_true, if_false] at hqx
          go_wp2_with ((with_reducible refine (Hbad.out _ H4.out.1).mono ?_); rintro e w5 ⟨rfl, h5⟩; have H5 := Lib.hid (And.intro h5.1 (H4.out.2.trans h5.2)); clear h5)
          go_meet
          rw [← hqx]
          exact H5.out
      case rest =>
      obtain ⟨hc1, hc2⟩ := hcut
      generalize wc = w5 at *
      have hx1 : XP.1 = k := by rw [← HXP.out]
      have hfin := Hfin.out
      rw [hx1] at hfin
      obtain ⟨XK, RX⟩ := XP
      simp only at hfin hc1
      have Hc1 := Lib.hid (And.intro hc1 hc2); clear hc1 hc2
      clear hx1 H4 Hbad hqx hle Hfin HXP
      obtain ⟨V, hV⟩ : ∃ V, RX.chgV = V := ⟨_, rfl⟩
      rw [hV] at hfin
      unfold RdV.chgV at hV
      have hbl : Calls Try.prog 121 #[.pointer (some ⟨g, 0, none⟩), .int .u64 2] w5 fun e w' => e = .returned (.int .u64 ((RX.below 2).1 : Int)) ∧ RdAt w' g (RX.below 2).2 ∧ Only g w5 w' := rbelow_any RX 2 g w5 Hc1.out.1
      generalize RX.below 2 = X at *
      obtain ⟨hn, R2⟩ := X
      simp only at hbl hV
      have Hbl := Lib.hid hbl; clear hbl
      have Hfin := Lib.hid hfin; clear hfin
      by_cases h1 : hn = 1
      · have h1' : ((hn : Int) == 1) = true := by simp [h1]
        rw [if_pos h1] at hV
        clear h1
        have H64 := Lib.hid (fun (y : World) (hy : RdAt y g R2) => (show Calls Try.prog 122 #[.pointer (some ⟨g, 0, none⟩), .int .i64 64] y fun e w' => e = .returned (.string ⟨(R2.str 64).1.toArray⟩) ∧ RdAt w' g (R2.str 64).2 ∧ Only g y w' from rstr2_any R2 64 g (by omega) y hy))
        generalize R2.str 64 = X at *
        obtain ⟨vl, R3⟩ := X
        simp only at H64 hV
        obtain ⟨v, hv⟩ : ∃ k : ByteArray, ⟨vl.toArray⟩ = k := ⟨_, rfl⟩
        rw [hv] at H64 hV
        clear hv
        subst hV
        simp only at Hfin
        by_cases he : R3.e = 0
        · have he' : ((R3.e : Int) != 0) = false := by simp [he]
          have hfin := Hfin.out
          rw [if_pos he] at hfin
          have Hfn := Lib.hid hfin; clear hfin he Hfin
          have Hput := Lib.hid (fun (w8 : World) (h8 : TreeAt w8 T) => putT_any k v Hks.out T w8.heap.size w8 (Nat.le_refl _) h8.lo h8 (by have := Hbut.out.2; omega))
          go_wp2_with (first
            | ((with_reducible refine Hbl.out.mono ?_); rintro e w6 ⟨rfl, h6⟩; have H6 := Lib.hid (And.intro h6.1 (Hc1.out.2.trans h6.2)); clear h6)
            | ((with_reducible refine (H64.out _ H6.out.1).mono ?_); rintro e w7 ⟨rfl, h7⟩; have H7 := Lib.hid (And.intro h7.1 (H6.out.2.trans h7.2)); clear h7)
            | ((with_reducible refine (err_any R3 g _ H7.out.1).mono ?_); rintro e w' ⟨rfl, rfl⟩)
            | ((with_reducible refine (Hput.out _ (TreeAt.only Hr.out H7.out.1 H7.out.2 Hat.out)).mono ?_); rintro e w9 ⟨X, rfl, hX⟩; have HX := Lib.hid hX; clear hX))
          have hbz := Hbut.out.1.trans (H7.out.2.but _)
          go_roundw
          case rel => exact ⟨i + 1, X, k, R3, hlt2, rfl, rfl, rfl, HX.out.at_, by have := HX.out.num; have := Hbut.out.2; omega, H7.out.1.below HX.out.bel, hbz.trans (but_of (HX.out.bel.mono hbz.size) g), by rw [HX.out.shp, sh_look]; exact Hfn.out⟩
          case measure => simp [intOf]; omega
        · have he' : ((R3.e : Int) != 0) = true := by rw [bne_iff_ne]; omega
          have hfin := Hfin.out
          rw [if_neg he] at hfin
          have Hfn := Lib.hid hfin; clear hfin he Hfin
          go_wp2_with (first
            | ((with_reducible refine Hbl.out.mono ?_); rintro e w6 ⟨rfl, h6⟩; have H6 := Lib.hid (And.intro h6.1 (Hc1.out.2.trans h6.2)); clear h6)
            | ((with_reducible refine (H64.out _ H6.out.1).mono ?_); rintro e w7 ⟨rfl, h7⟩; have H7 := Lib.hid (And.intro h7.1 (H6.out.2.trans h7.2)); clear h7)
            | ((with_reducible refine (err_any R3 g _ H7.out.1).mono ?_); rintro e w' ⟨rfl, rfl⟩))
          go_ret
          exact ⟨.nil, rfl, trivial, by rw [← Hfn.out]; rfl, Nat.zero_le _, by rw [← Hfn.out]; exact H7.out.1, Hbut.out.1.trans (H7.out.2.but _)⟩
      · have h1' : ((hn : Int) == 1) = false := by simp; omega
        rw [if_neg h1] at hV
        clear h1
        subst hV
        obtain ⟨R3, hR3⟩ : ∃ R3, R3 = R2 := ⟨_, rfl⟩
        subst hR3
        simp only at Hfin
        by_cases he : R3.e = 0
        · have he' : ((R3.e : Int) != 0) = false := by simp [he]
          have hfin := Hfin.out
          rw [if_pos he] at hfin
          have Hfn := Lib.hid hfin; clear hfin he Hfin
          have Hput := Lib.hid (fun (w8 : World) (h8 : TreeAt w8 T) => delT_any k T w8.heap.size w8 (Nat.le_refl _) h8.lo h8 (by have := Hbut.out.2; omega))
          go_wp2_with (first
            | ((with_reducible refine Hbl.out.mono ?_); rintro e w6 ⟨rfl, h6⟩; have H6 := Lib.hid (And.intro h6.1 (Hc1.out.2.trans h6.2)); clear h6)
            | ((with_reducible refine (err_any R3 g _ H6.out.1).mono ?_); rintro e w' ⟨rfl, rfl⟩)
            | ((with_reducible refine (Hput.out _ (TreeAt.only Hr.out H6.out.1 H6.out.2 Hat.out)).mono ?_); rintro e w9 ⟨X, rfl, hX⟩; have HX := Lib.hid hX; clear hX))
          have hbz := Hbut.out.1.trans (H6.out.2.but _)
          go_roundw
          case rel => exact ⟨i + 1, X, k, R3, hlt2, rfl, rfl, rfl, HX.out.at_, by have := HX.out.num; have := Hbut.out.2; omega, H6.out.1.below HX.out.bel, hbz.trans (but_of (HX.out.bel.mono hbz.size) g), by rw [HX.out.shp, sh_look]; exact Hfn.out⟩
          case measure => simp [intOf]; omega
        · have he' : ((R3.e : Int) != 0) = true := by rw [bne_iff_ne]; omega
          have hfin := Hfin.out
          rw [if_neg he] at hfin
          have Hfn := Lib.hid hfin; clear hfin he Hfin
          go_wp2_with (first
            | ((with_reducible refine Hbl.out.mono ?_); rintro e w6 ⟨rfl, h6⟩; have H6 := Lib.hid (And.intro h6.1 (Hc1.out.2.trans h6.2)); clear h6)
            | ((with_reducible refine (err_any R3 g _ H6.out.1).mono ?_); rintro e w' ⟨rfl, rfl⟩))
          go_ret
          exact ⟨.nil, rfl, trivial, by rw [← Hfn.out]; rfl, Nat.zero_le _, by rw [← Hfn.out]; exact H6.out.1, Hbut.out.1.trans (H6.out.2.but _)⟩
    · have hlt' : ¬ (i : Int) < (n : Int) := by omega
      rw [show n - i = 0 by omega] at hfin
      have Hfin := Lib.hid hfin; clear hfin
      go_wp2_with fail
      go_ret
      exact ⟨T, rfl, Hat.out, by rw [← Hfin.out]; rfl, by have := Hbut.out.2; omega, by rw [← Hfin.out]; exact Hr.out, Hbut.out.1⟩
end Go.Proofs.Ytkngadbeflepoaa
