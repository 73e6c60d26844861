/- Frames: Take. Condition: the text is not too long. -/
import Derived.OwnWalk
import Derived.Test.YtogfladmgbldcaaGreatDoorZLogLasts2
import Derived.Test.YtogfladmgbldcaaGreatDoorRows
import Derived.WalkKit
import Derived.ProofKit
import Derived.Below
import Derived.Lib.Hide
import Derived.Lib.LaidTab
import Derived.Shelf.Strings.Repeat
import Derived.Shelf.Strconv.Itoa4
import Derived.Shelf.Pu.ErrVarParseUint
import Derived.Shelf.Strconv.ToError
import Derived.Lib.AppendIntMem
import Derived.Lib.TrailingZeros
import Derived.BigCall
import Derived.Maps.OwnSet
import Derived.Maps.OwnOps
import Derived.Test.YtogfladmgbldcaaGreatDoorZLogLasts1
import Derived.Maps.Views
import Derived.Laws.BitsAllLaws
import Derived.Deep.MidRow
import Derived.Laws.EntriesVeiled
namespace Go.Proofs.YtogfladmgbldcaaGreatDoor
open Go.RowKit
def RdV.sumP (R : RdV) : Nat → Nat × RdV
  | 0 => (0, R)
  | i + 1 => ((R.sumP i).1 + (R.sumP i).2.byte.1.toNat * 2 ^ (8 * i), (R.sumP i).2.byte.2)
theorem sumP_lt (R : RdV) : ∀ i, (R.sumP i).1 < 2 ^ (8 * i)
  | 0 => by simp [RdV.sumP]
  | i + 1 => by
    have h := sumP_lt R i
    have hb := (R.sumP i).2.byte.1.toNat_lt
    unfold RdV.sumP
    rw [show 8 * (i + 1) = 8 * i + 8 by omega, Nat.pow_add]
    generalize 2 ^ (8 * i) = q at *
    have : (R.sumP i).2.byte.1.toNat * q + q ≤ 256 * q := by
      have := Nat.mul_le_mul_right q (show (R.sumP i).2.byte.1.toNat + 1 ≤ 256 by omega)
      rw [Nat.add_mul, Nat.one_mul] at this
      exact this
    rw [Nat.mul_comm q]
    show _ < 256 * q
    omega
theorem or_shift (n b i : Nat) (hn : n < 2 ^ (8 * i)) (hb : b < 256) (hi : i < 8) :
    bits BinOp.or IntKind.u64 (n : Int) (IntKind.u64.wrap (IntKind.u64.wrap (b : Int) * 2 ^ (8 * i))) = ((n + b * 2 ^ (8 * i) : Nat) : Int) := by
  have h1 : b * 2 ^ (8 * i) < 18446744073709551616 := by
    have h2 : (2 : Nat) ^ (8 * i) ≤ 2 ^ 56 := Nat.pow_le_pow_right (by omega) (by omega)
    have h3 := Nat.mul_le_mul (show b ≤ 255 by omega) h2
    have h4 : 255 * (2 : Nat) ^ 56 < 18446744073709551616 := by decide
    omega
  have h5 : n < 18446744073709551616 := by
    have h2 : (2 : Nat) ^ (8 * i) ≤ 2 ^ 56 := Nat.pow_le_pow_right (by omega) (by omega)
    have h4 : (2 : Nat) ^ 56 < 18446744073709551616 := by decide
    omega
  have hw1 : IntKind.u64.wrap (b : Int) = (b : Int) := by rw [IntKind.wrap_u64]; omega
  have hc : ((b : Int) * 2 ^ (8 * i)) = ((b * 2 ^ (8 * i) : Nat) : Int) := by rw [Int.natCast_mul, Int.natCast_pow]; rfl
  have hw2 : IntKind.u64.wrap ((b * 2 ^ (8 * i) : Nat) : Int) = ((b * 2 ^ (8 * i) : Nat) : Int) := by
    generalize b * 2 ^ (8 * i) = q at *
    rw [IntKind.wrap_u64]
    omega
  rw [hw1, hc, hw2]
  have h := or_bv (BitVec.ofNat 64 n) (BitVec.ofNat 64 (b * 2 ^ (8 * i)))
  have e1 : (BitVec.ofNat 64 n).toNat = n := by simp; omega
  have e2 : (BitVec.ofNat 64 (b * 2 ^ (8 * i))).toNat = b * 2 ^ (8 * i) := by
    generalize b * 2 ^ (8 * i) = q at *
    simp
    omega
  rw [BitVec.toNat_or, e1, e2] at h
  rw [h]
  congr 1
  have hk := Nat.two_pow_add_eq_or_of_lt hn b
  rw [Nat.or_comm, Nat.mul_comm b, ← hk, Nat.add_comm]
theorem sumP_at (s : Bs) : ∀ i, i ≤ s.length → (RdV.mk 0 s).sumP i = (leN (s.take i), ⟨0, s.drop i⟩)
  | 0, _ => rfl
  | i + 1, h => by
    have hi : i < s.length := by omega
    have ht : s.take (i + 1) = s.take i ++ [s[i]] := by rw [List.take_add_one, List.getElem?_eq_getElem hi]; rfl
    have hd : s.drop i = s[i] :: s.drop (i + 1) := List.drop_eq_getElem_cons hi
    rw [RdV.sumP, sumP_at s i (by omega)]
    simp only
    rw [hd, byte_app, ht, leN_app, List.length_take, Nat.min_eq_left (by omega), show (2 : Nat) ^ (8 * i) = 256 ^ i by rw [Nat.pow_mul]]
set_option maxRecDepth 100000 in
theorem left_any (R : RdV) (g : Nat) (w : World) (h : RdAt w g R) :
    Calls Tryz.prog 83 #[.pointer (some ⟨g, 0, none⟩)] w fun e w' => e = .returned (.int .i64 ((if R.e = 0 then R.s.length else 0 : Nat) : Int)) ∧ w = w' := by
  have hz := bs_size R.s
  obtain ⟨c0, c1⟩ := h.cells
  by_cases he : R.e = 0
  · rw [if_pos he]
    have Hf := Lib.hid (show Calls Tryz.prog 105 #[.pointer (some ⟨g, 0, none⟩)] w fun e w' => e = .returned (.bool false) ∧ w = w' from by have h2 := failed_any R g w h; rw [decide_eq_false (by rw [he]; decide)] at h2; exact h2)
    clear h he
    go_enter Tryz.func83, Tryz.ntmps83
    go_wp2_with (go_at_call 105; refine Hf.out.mono ?_; rintro e w' ⟨rfl, rfl⟩)
    go_ret
    exact ⟨rfl, rfl⟩
  · rw [if_neg he]
    have Hf := Lib.hid (show Calls Tryz.prog 105 #[.pointer (some ⟨g, 0, none⟩)] w fun e w' => e = .returned (.bool true) ∧ w = w' from by have h2 := failed_any R g w h; rw [decide_eq_true he] at h2; exact h2)
    clear h he
    go_enter Tryz.func83, Tryz.ntmps83
    go_wp2_with (go_at_call 105; refine Hf.out.mono ?_; rintro e w' ⟨rfl, rfl⟩)
    go_ret
    exact ⟨rfl, rfl⟩
theorem below_pos {R : RdV} {m : Nat} (h : (R.below m).1 ≠ 0) : (R.below m).2.e = 0 := by
  unfold RdV.below at h ⊢
  split
  · next h1 =>
    rw [if_pos h1] at h
    split
    · exact h1
    · next h2 => rw [if_neg h2] at h; exact (h rfl).elim
  · next h1 => rw [if_neg h1] at h; exact (h rfl).elim
theorem rdF_zero {s : Bs} (h : ((RdV.mk 0 s).below 65537).1 = 0) : rdF s = (0, ((RdV.mk 0 s).below 65537).2.fail 4) := by unfold rdF; rw [if_pos h]
/-- A length that may be read: how the text goes on. -/
theorem rdF_pos {s : Bs} (h : ((RdV.mk 0 s).below 65537).1 ≠ 0) : ∃ n r, 1 ≤ n ∧ n ≤ 65536 ∧ s = numL n ++ r ∧ (RdV.mk 0 s).below 65537 = (n, ⟨0, r⟩) := by
  have h1 := below_pos h
  have h2 := below_inv (R := RdV.mk 0 s) (R2 := ((RdV.mk 0 s).below 65537).2) (n := ((RdV.mk 0 s).below 65537).1) (m := 65537) rfl h1
  refine ⟨((RdV.mk 0 s).below 65537).1, ((RdV.mk 0 s).below 65537).2.s, by omega, by have := h2.2.1; omega, h2.2.2, ?_⟩
  refine Prod.ext rfl ?_
  show ((RdV.mk 0 s).below 65537).2 = ⟨0, ((RdV.mk 0 s).below 65537).2.s⟩
  generalize ((RdV.mk 0 s).below 65537).2 = R at h1
  cases R
  cases h1
  rfl
theorem takeF_pos {n : Nat} (h0 : 1 ≤ n) (h1 : n ≤ 65536) (r : Bs) : takeF (numL n ++ r) = if r.length < 8 + n then ([], 0, 3) else if crcN ((r.drop 8).take n) ≠ leN (r.take 8) then ([], 0, 5) else ((r.drop 8).take n, (numL n).length + 8 + n, 0) := by
  unfold takeF
  rw [rdF_app h0 h1]
  simp only
  rw [if_neg (by omega)]
  split
  · rfl
  · split
    · rfl
    · congr 2
      simp only [List.length_append]
      omega
set_option maxRecDepth 100000 in
set_option maxHeartbeats 16000000 in
theorem ftake_any (s : Bs) (hs : s.length ≤ 100000000) (w : World) :
    Calls Tryz.prog 62 #[.string ⟨s.toArray⟩] w fun e w' => e = .returned (.tuple #[.string ⟨(takeF s).1.toArray⟩, .int .i64 ((takeF s).2.1 : Int), .int .i64 ((takeF s).2.2 : Int)]) ∧ Below w.heap.size w w' := by
  have hof := of_any1 s (by unfold maxLen; omega) w
  have hb1 := (Below.refl w.heap.size w).alloc (Nat.le_refl _) (.cells (rdCells ⟨0, s⟩).toArray 130)
  have hr1 : RdAt (w.alloc (.cells (rdCells ⟨0, s⟩).toArray 130)) w.heap.size ⟨0, s⟩ := ⟨heap_alloc_new _ _, by show s.length ≤ _; unfold maxLen; omega⟩
  obtain ⟨w1, hw1⟩ : ∃ w1, w1 = w.alloc (.cells (rdCells ⟨0, s⟩).toArray 130) := ⟨_, rfl⟩
  rw [← hw1] at hof hb1 hr1
  have hbl : Calls Tryz.prog 80 #[.pointer (some ⟨w.heap.size, 0, none⟩), .int .u64 65537] w1 _ := rbelow_any ⟨0, s⟩ 65537 w.heap.size w1 hr1
  have Hof := Lib.hid hof
  have HB1 := Lib.hid hb1
  obtain ⟨x, hx⟩ : ∃ x : ByteArray, x = ⟨s.toArray⟩ := ⟨_, rfl⟩
  have hxs : x.size = s.length := by rw [hx]; simp [ByteArray.size]
  rw [← hx] at Hof ⊢
  by_cases h0 : ((RdV.mk 0 s).below 65537).1 = 0
  · have ht : takeF s = ([], 0, (((RdV.mk 0 s).below 65537).2.fail 4).e) := by
      unfold takeF
      rw [rdF_zero h0]
      simp only
      rw [if_pos (fail_e (by decide))]
    rw [ht]
    have hne := fail_e (R := ((RdV.mk 0 s).below 65537).2) (c := 4) (by decide)
    rw [show ((RdV.mk 0 s).below 65537).1 = 0 from h0] at hbl
    generalize ((RdV.mk 0 s).below 65537).2 = R at *
    obtain ⟨R4, hR4⟩ : ∃ R4, R4 = R.fail 4 := ⟨_, rfl⟩
    have hneq : ((R4.e : Int) != 0) = true := by rw [bne_iff_ne, hR4]; exact fun e => hne (by omega)
    have HBad := Lib.hid (fun (y : World) (hy : RdAt y w.heap.size R) => bad_any R w.heap.size y hy)
    have Herr := Lib.hid (fun (y : World) (hy : RdAt y w.heap.size (R.fail 4)) => err_any (R.fail 4) w.heap.size y hy)
    rw [← hR4] at HBad Herr ⊢
    have Hbl := Lib.hid hbl
    clear hof hb1 hr1 hw1 hx hxs hs ht h0 hbl hne hR4
    go_enter Tryz.func62, Tryz.ntmps62
    go_wp2_with (first
      | ((with_reducible refine Hof.out.mono ?_); rintro e w2 ⟨rfl, rfl⟩)
      | ((with_reducible refine Hbl.out.mono ?_); rintro e w2 ⟨rfl, h2⟩; have H2 := Lib.hid h2; clear h2)
      | ((with_reducible refine (HBad.out _ H2.out.1).mono ?_); rintro e w3 ⟨rfl, h3⟩; have H3 := Lib.hid h3; clear h3)
      | ((with_reducible refine (Herr.out _ H3.out.1).mono ?_); rintro e w' ⟨rfl, rfl⟩))
    go_ret3
    exact ⟨rfl, (H2.out.2.trans H3.out.2).below HB1.out (Nat.le_refl _)⟩
  · obtain ⟨n, r, h1, h2, hsr, hB⟩ := rdF_pos h0
    have hn9 := numL_len n
    have hsl : s.length = (numL n).length + r.length := by rw [hsr, List.length_append]
    have htk0 : takeF s = _ := (show takeF s = takeF (numL n ++ r) by rw [← hsr]).trans (takeF_pos h1 h2 r)
    obtain ⟨tk, htk⟩ : ∃ tk, tk = takeF s := ⟨_, rfl⟩
    rw [← htk] at htk0 ⊢
    clear htk
    rw [show RdV.below ⟨0, s⟩ 65537 = (n, ⟨0, r⟩) from hB] at hbl
    have Hbl := Lib.hid hbl
    have Herr := Lib.hid (fun (y : World) (hy : RdAt y w.heap.size ⟨0, r⟩) => show Calls Tryz.prog 82 #[.pointer (some ⟨w.heap.size, 0, none⟩)] y (fun e w' => e = .returned (.int .i64 0) ∧ y = w') from err_any ⟨0, r⟩ w.heap.size y hy)
    have Hlf := Lib.hid (fun (q : Bs) (y : World) (hy : RdAt y w.heap.size ⟨0, q⟩) => show Calls Tryz.prog 83 #[.pointer (some ⟨w.heap.size, 0, none⟩)] y (fun e w' => e = .returned (.int .i64 (q.length : Int)) ∧ y = w') from left_any ⟨0, q⟩ w.heap.size y hy)
    have hcv : IntKind.i64.wrap (n : Int) = (n : Int) := IntWalk.i64_in _ (by omega)
    have hneq : ((n : Int) == 0) = false := by rw [beq_eq_false_iff_ne]; omega
    have hwa : wrap64 (8 + (n : Int)) = ((8 + n : Nat) : Int) := by unfold wrap64; omega
    have HX := Lib.hid (And.intro hx (And.intro hxs (And.intro hsl (And.intro hsr (And.intro hs (And.intro h1 h2))))))
    clear hof hb1 hr1 hw1 hx hxs hs h0 hbl hB hsl hsr h1 h2
    by_cases hsh : r.length < 8 + n
    · rw [if_pos hsh] at htk0
      have HTK := Lib.hid htk0
      have hdc : (r.length : Int) < 8 + (n : Int) := by omega
      clear hsh htk0
      go_enter Tryz.func62, Tryz.ntmps62
      go_wp2_with (first
        | ((with_reducible refine Hof.out.mono ?_); rintro e w2 ⟨rfl, rfl⟩)
        | ((with_reducible refine Hbl.out.mono ?_); rintro e w2 ⟨rfl, h2⟩; have H2 := Lib.hid h2; clear h2)
        | ((with_reducible refine (Herr.out _ H2.out.1).mono ?_); rintro e w' ⟨rfl, rfl⟩)
        | ((with_reducible refine (Hlf.out _ _ H2.out.1).mono ?_); rintro e w' ⟨rfl, rfl⟩))
      go_ret3
      rw [HTK.out]
      exact ⟨rfl, H2.out.2.below HB1.out (Nat.le_refl _)⟩
    · rw [if_neg hsh] at htk0
      have HTK := Lib.hid htk0
      have hdc : ¬ (r.length : Int) < 8 + (n : Int) := by omega
      clear htk0
      go_enter Tryz.func62, Tryz.ntmps62
      go_wp2_with (first
        | ((with_reducible refine Hof.out.mono ?_); rintro e w2 ⟨rfl, rfl⟩)
        | ((with_reducible refine Hbl.out.mono ?_); rintro e w2 ⟨rfl, h2⟩; have H2 := Lib.hid h2; clear h2)
        | ((with_reducible refine (Herr.out _ H2.out.1).mono ?_); rintro e w' ⟨rfl, rfl⟩)
        | ((with_reducible refine (Hlf.out _ _ H2.out.1).mono ?_); rintro e w' ⟨rfl, rfl⟩))
      clear Hbl Hof Herr hcv hneq hwa hdc
      have HB2 := Lib.hid (H2.out.2.below HB1.out (Nat.le_refl _))
      go_loopw [8, 31] (fun s8 s31 wr => ∃ i : Nat, i ≤ 8 ∧ s31 = .int .i64 (i : Int) ∧ s8 = .int .u64 (((RdV.mk 0 r).sumP i).1 : Int) ∧ RdAt wr w.heap.size ((RdV.mk 0 r).sumP i).2 ∧ Below w.heap.size w wr) (fun _ s31 _ => 8 - (intOf s31).toNat)
      case atStart => exact ⟨0, by omega, rfl, rfl, H2.out.1, HB2.out⟩
      case round =>
        obtain ⟨i, hi, rfl, rfl, hr, ho⟩ := hrel
        clear H2 HB2
        have Ho := Lib.hid ho; clear ho
        by_cases hlt : i < 8
        · have hlt' : (i : Int) < 8 := by omega
          have hsucc : wrap64 ((i : Int) + 1) = ((i + 1 : Nat) : Int) := by unfold wrap64; omega
          have Hb := Lib.hid (byte_any ((RdV.mk 0 r).sumP i).2 w.heap.size wr hr); clear hr
          go_wp2_with ((with_reducible refine Hb.out.mono ?_); rintro e w2 ⟨rfl, h2⟩; have H2 := Lib.hid h2; clear h2 Hb)
          have hor := or_shift ((RdV.mk 0 r).sumP i).1 ((RdV.mk 0 r).sumP i).2.byte.1.toNat i (sumP_lt _ i) ((RdV.mk 0 r).sumP i).2.byte.1.toNat_lt hlt
          refine ⟨⟨i + 1, hlt, by simp, ?_, H2.out.1, H2.out.2.below Ho.out (Nat.le_refl _)⟩, by simp [intOf]; omega⟩
          rw [hor]
          rfl
        · have hlt' : ¬ (i : Int) < 8 := by omega
          have he : i = 8 := by omega
          subst he
          rw [sumP_at r 8 (by omega)] at hr ⊢
          simp only at hr ⊢
          obtain ⟨r8, hr8⟩ : ∃ r8, r8 = r.drop 8 := ⟨_, rfl⟩
          rw [← hr8] at hr
          have Hr := Lib.hid hr
          obtain ⟨at_, hat⟩ : ∃ at_, at_ = (numL n).length + 8 := ⟨_, rfl⟩
          have hx1 := HX.out
          have hdl : r8.length = r.length - 8 := by rw [hr8]; exact List.length_drop ..
          have ha1 : wrap64 ((x.size : Int) - (r8.length : Int)) = (at_ : Int) := by unfold wrap64; omega
          have ha2 : wrap64 ((at_ : Int) + (n : Int)) = ((at_ + n : Nat) : Int) := by unfold wrap64; omega
          have ha3 : at_ ≤ at_ + n := by omega
          have ha4 : at_ + n ≤ x.size := by omega
          obtain ⟨X, hX⟩ : ∃ X, X = x.extract at_ (at_ + n) := ⟨_, rfl⟩
          have hXl : X.data.toList = (r.drop 8).take n := by
            rw [hX, hx1.1, bs_extract, hx1.2.2.2.1]
            show ((numL n ++ r).take (at_ + n)).drop at_ = _
            rw [List.drop_take, show at_ + n - at_ = n by omega, hat, ← List.drop_drop, List.drop_left]
          have hXs : X.size ≤ maxLen := by
            have h := congrArg List.length hXl
            rw [str_len, List.length_take] at h
            unfold maxLen
            omega
          obtain ⟨c, hc⟩ : ∃ c, c = crcN ((r.drop 8).take n) := ⟨_, rfl⟩
          have HSum := Lib.hid (show ∀ y, Calls Tryz.prog 67 #[.string X] y fun e w' => e = .returned (.int .u64 (c : Int)) ∧ y = w' from fun y => by
            have h := sum_any X hXs y
            rw [hXl] at h
            rw [hc]
            exact h)
          have HXX := Lib.hid (And.intro hX (And.intro hXl (And.intro hc hat)))
          obtain ⟨l8, hl8⟩ : ∃ l8, l8 = leN (r.take 8) := ⟨_, rfl⟩
          have HTK2 := Lib.hid (show tk = if c ≠ l8 then ([], 0, 5) else ((r.drop 8).take n, (numL n).length + 8 + n, 0) from by rw [hc, hl8]; exact HTK.out)
          rw [← hl8]
          clear hr hx1 hdl hX hXl hXs hc hat hl8 hi hlt hr8
          by_cases hcc : c = l8
          · have hne : ((c : Int) != (l8 : Int)) = false := by rw [hcc]; simp
            have HT3 := Lib.hid (show tk = ((r.drop 8).take n, (numL n).length + 8 + n, 0) from by rw [HTK2.out, if_neg (fun h => h hcc)])
            clear hcc
            go_wp2_with (first
              | ((with_reducible refine (Hlf.out _ _ Hr.out).mono ?_); rintro e w' ⟨rfl, rfl⟩)
              | (rw [← HXX.out.1]; (with_reducible refine (HSum.out _).mono ?_); rintro e w' ⟨rfl, rfl⟩))
            go_ret3
            rw [HT3.out]
            refine ⟨?_, Ho.out⟩
            have hXe : X = ⟨((r.drop 8).take n).toArray⟩ := by
              apply ByteArray.ext
              apply Array.toList_inj.1
              rw [HXX.out.2.1]
            rw [ha2, hXe, show at_ + n = (numL n).length + 8 + n by rw [HXX.out.2.2.2]]
            rfl
          · have hne : ((c : Int) != (l8 : Int)) = true := by rw [bne_iff_ne]; omega
            have HT3 := Lib.hid (show tk = ([], 0, 5) from by rw [HTK2.out, if_pos hcc])
            clear hcc
            go_wp2_with (first
              | ((with_reducible refine (Hlf.out _ _ Hr.out).mono ?_); rintro e w' ⟨rfl, rfl⟩)
              | (rw [← HXX.out.1]; (with_reducible refine (HSum.out _).mono ?_); rintro e w' ⟨rfl, rfl⟩))
            go_ret3
            rw [HT3.out]
            exact ⟨rfl, Ho.out⟩
end Go.Proofs.YtogfladmgbldcaaGreatDoor
namespace Go.Proofs.YtogfladmgbldcaaGreatDoor
open Go.RowKit Go.Shelf
def nmRen : Go.Shelf.Ren := ⟨(fun | 99 => 92 | 105 => 70 | 129 => 89 | 165 => 93 | 166 => 94 | 169 => 96 | 170 => 95 | 171 => 78 | 205 => 144 | 206 => 113 | 212 => 91 | 240 => 114 | 241 => 115 | 243 => 102 | 245 => 104 | 246 => 120 | 263 => 111 | 264 => 112 | 276 => 131 | 277 => 132 | 279 => 123 | 280 => 124 | 281 => 125 | 282 => 126 | 283 => 107 | 284 => 108 | 285 => 109 | 286 => 110 | 316 => 143 | 317 => 127 | 318 => 128 | 319 => 129 | 320 => 130 | 337 => 145 | 338 => 146 | n => n), (fun | 0 => 0 | 2 => 2 | 3 => 3 | 4 => 4 | 5 => 5 | 9 => 9 | 20 => 20 | 37 => 42 | 46 => 133 | 51 => 49 | 53 => 22 | 70 => 140 | 72 => 142 | 75 => 122 | 76 => 144 | 80 => 146 | 109 => 137 | 127 => 162 | 143 => 198 | 145 => 200 | 146 => 158 | 148 => 160 | 164 => 178 | 167 => 168 | 168 => 170 | 171 => 154 | 173 => 156 | 210 => 191 | 212 => 175 | 213 => 176 | 232 => 201 | 233 => 202 | n => n), (fun | 15 => 1 | 16 => 2 | 17 => 0 | 18 => 4 | 19 => 5 | n => n)⟩
theorem lay_rep : Lays.n105 Tryz.prog nmRen :=
  { mixed := by kernel_rfl,
    f99 := Tryz.func92.trans (congrArg some (by kernel_rfl)),
    f105 := Tryz.func70.trans (congrArg some (by kernel_rfl)),
    f165 := Tryz.func93.trans (congrArg some (by kernel_rfl)),
    f166 := Tryz.func94.trans (congrArg some (by kernel_rfl)),
    f169 := Tryz.func96.trans (congrArg some (by kernel_rfl)),
    f170 := Tryz.func95.trans (congrArg some (by kernel_rfl)),
    f206 := Tryz.func113.trans (congrArg some (by kernel_rfl)),
    f212 := Tryz.func91.trans (congrArg some (by kernel_rfl)),
    f240 := Tryz.func114.trans (congrArg some (by kernel_rfl)),
    f241 := Tryz.func115.trans (congrArg some (by kernel_rfl)),
    f263 := Tryz.func111.trans (congrArg some (by kernel_rfl)),
    f264 := Tryz.func112.trans (congrArg some (by kernel_rfl)),
    f276 := Tryz.func131.trans (congrArg some (by kernel_rfl)),
    f277 := Tryz.func132.trans (congrArg some (by kernel_rfl)),
    t0 := Tryz.underlying0,
    a0 := Tryz.isAgg0,
    z0 := Tryz.sizeOf0,
    v0 := Tryz.zeroValue0,
    t3 := Tryz.underlying3,
    a3 := Tryz.isAgg3,
    z3 := Tryz.sizeOf3,
    v3 := Tryz.zeroValue3,
    t4 := Tryz.underlying4,
    a4 := Tryz.isAgg4,
    z4 := Tryz.sizeOf4,
    v4 := Tryz.zeroValue4,
    t5 := Tryz.underlying5,
    a5 := Tryz.isAgg5,
    z5 := Tryz.sizeOf5,
    v5 := Tryz.zeroValue5,
    t9 := Tryz.underlying9,
    a9 := Tryz.isAgg9,
    z9 := Tryz.sizeOf9,
    v9 := Tryz.zeroValue9,
    t20 := Tryz.underlying20,
    a20 := Tryz.isAgg20,
    z20 := Tryz.sizeOf20,
    v20 := Tryz.zeroValue20,
    t37 := Tryz.underlying42,
    a37 := Tryz.isAgg42,
    z37 := Tryz.sizeOf42,
    v37 := Tryz.zeroValue42,
    t46 := Tryz.underlying133,
    a46 := Tryz.isAgg133,
    z46 := Tryz.sizeOf133,
    v46 := Tryz.zeroValue133,
    t51 := Tryz.underlying49,
    a51 := Tryz.isAgg49,
    z51 := Tryz.sizeOf49,
    v51 := Tryz.zeroValue49,
    t53 := Tryz.underlying22,
    a53 := Tryz.isAgg22,
    z53 := Tryz.sizeOf22,
    v53 := Tryz.zeroValue22,
    t70 := Tryz.underlying140,
    a70 := Tryz.isAgg140,
    z70 := Tryz.sizeOf140,
    v70 := Tryz.zeroValue140,
    t72 := Tryz.underlying142,
    a72 := Tryz.isAgg142,
    z72 := Tryz.sizeOf142,
    v72 := Tryz.zeroValue142,
    t75 := Tryz.underlying122,
    a75 := Tryz.isAgg122,
    z75 := Tryz.sizeOf122,
    v75 := Tryz.zeroValue122,
    t76 := Tryz.underlying144,
    a76 := Tryz.isAgg144,
    z76 := Tryz.sizeOf144,
    v76 := Tryz.zeroValue144,
    t109 := Tryz.underlying137,
    a109 := Tryz.isAgg137,
    z109 := Tryz.sizeOf137,
    v109 := Tryz.zeroValue137,
    t127 := Tryz.underlying162,
    a127 := Tryz.isAgg162,
    z127 := Tryz.sizeOf162,
    v127 := Tryz.zeroValue162,
    t146 := Tryz.underlying158,
    a146 := Tryz.isAgg158,
    z146 := Tryz.sizeOf158,
    v146 := Tryz.zeroValue158,
    t148 := Tryz.underlying160,
    a148 := Tryz.isAgg160,
    z148 := Tryz.sizeOf160,
    v148 := Tryz.zeroValue160,
    t164 := Tryz.underlying178,
    a164 := Tryz.isAgg178,
    z164 := Tryz.sizeOf178,
    v164 := Tryz.zeroValue178 }
theorem lay_itoa : LaysM.n171 Tryz.prog nmRen :=
  { mixed := by kernel_rfl,
    f129 := Tryz.func89.trans (congrArg some (by kernel_rfl)),
    f171 := Tryz.func78.trans (congrArg some (by kernel_rfl)),
    f243 := Tryz.func102.trans (congrArg some (by kernel_rfl)),
    f246 := Tryz.func120.trans (congrArg some (by kernel_rfl)),
    f283 := Tryz.func107.trans (congrArg some (by kernel_rfl)),
    f284 := Tryz.func108.trans (congrArg some (by kernel_rfl)),
    f285 := Tryz.func109.trans (congrArg some (by kernel_rfl)),
    f286 := Tryz.func110.trans (congrArg some (by kernel_rfl)),
    f317 := Tryz.func127.trans (congrArg some (by kernel_rfl)),
    f318 := Tryz.func128.trans (congrArg some (by kernel_rfl)),
    f319 := Tryz.func129.trans (congrArg some (by kernel_rfl)),
    f320 := Tryz.func130.trans (congrArg some (by kernel_rfl)),
    f337 := Tryz.func145.trans (congrArg some (by kernel_rfl)),
    f338 := Tryz.func146.trans (congrArg some (by kernel_rfl)),
    t0 := Tryz.underlying0,
    a0 := Tryz.isAgg0,
    z0 := Tryz.sizeOf0,
    v0 := Tryz.zeroValue0,
    t2 := Tryz.underlying2,
    a2 := Tryz.isAgg2,
    z2 := Tryz.sizeOf2,
    v2 := Tryz.zeroValue2,
    t3 := Tryz.underlying3,
    a3 := Tryz.isAgg3,
    z3 := Tryz.sizeOf3,
    v3 := Tryz.zeroValue3,
    t4 := Tryz.underlying4,
    a4 := Tryz.isAgg4,
    z4 := Tryz.sizeOf4,
    v4 := Tryz.zeroValue4,
    t5 := Tryz.underlying5,
    a5 := Tryz.isAgg5,
    z5 := Tryz.sizeOf5,
    v5 := Tryz.zeroValue5,
    t9 := Tryz.underlying9,
    a9 := Tryz.isAgg9,
    z9 := Tryz.sizeOf9,
    v9 := Tryz.zeroValue9,
    t20 := Tryz.underlying20,
    a20 := Tryz.isAgg20,
    z20 := Tryz.sizeOf20,
    v20 := Tryz.zeroValue20,
    t37 := Tryz.underlying42,
    a37 := Tryz.isAgg42,
    z37 := Tryz.sizeOf42,
    v37 := Tryz.zeroValue42,
    t46 := Tryz.underlying133,
    a46 := Tryz.isAgg133,
    z46 := Tryz.sizeOf133,
    v46 := Tryz.zeroValue133,
    t51 := Tryz.underlying49,
    a51 := Tryz.isAgg49,
    z51 := Tryz.sizeOf49,
    v51 := Tryz.zeroValue49,
    t53 := Tryz.underlying22,
    a53 := Tryz.isAgg22,
    z53 := Tryz.sizeOf22,
    v53 := Tryz.zeroValue22,
    t171 := Tryz.underlying154,
    a171 := Tryz.isAgg154,
    z171 := Tryz.sizeOf154,
    v171 := Tryz.zeroValue154,
    t173 := Tryz.underlying156,
    a173 := Tryz.isAgg156,
    z173 := Tryz.sizeOf156,
    v173 := Tryz.zeroValue156,
    t212 := Tryz.underlying175,
    a212 := Tryz.isAgg175,
    z212 := Tryz.sizeOf175,
    v212 := Tryz.zeroValue175,
    t213 := Tryz.underlying176,
    a213 := Tryz.isAgg176,
    z213 := Tryz.sizeOf176,
    t232 := Tryz.underlying201,
    a232 := Tryz.isAgg201,
    z232 := Tryz.sizeOf201,
    v232 := Tryz.zeroValue201,
    t233 := Tryz.underlying202,
    a233 := Tryz.isAgg202,
    z233 := Tryz.sizeOf202,
    v233 := Tryz.zeroValue202,
    g17 := by kernel_rfl,
    g18 := by kernel_rfl,
    g19 := by kernel_rfl,
    i0 := by kernel_rfl,
    i2 := by kernel_rfl,
    i3 := by kernel_rfl,
    i4 := by kernel_rfl,
    i5 := by kernel_rfl,
    i9 := by kernel_rfl,
    i20 := by kernel_rfl,
    i37 := by kernel_rfl,
    i46 := by kernel_rfl,
    i51 := by kernel_rfl,
    i53 := by kernel_rfl,
    i171 := by kernel_rfl,
    i173 := by kernel_rfl,
    i212 := by kernel_rfl,
    i232 := by kernel_rfl,
    i233 := by kernel_rfl,
    m17 := by kernel_rfl,
    m18 := by kernel_rfl,
    m19 := by kernel_rfl }
def puRen : Go.Shelf.Ren := ⟨(fun | 14 => 79 | 16 => 103 | 17 => 104 | 19 => 121 | 20 => 122 | 21 => 123 | 22 => 124 | 23 => 125 | 24 => 126 | 25 => 143 | 26 => 144 | 27 => 78 | 28 => 102 | 29 => 120 | 30 => 107 | 31 => 108 | 32 => 109 | 33 => 110 | 34 => 127 | 35 => 89 | 36 => 128 | 37 => 129 | 38 => 130 | 39 => 145 | 40 => 146 | n => n), (fun | 0 => 0 | 2 => 2 | 3 => 3 | 4 => 4 | 5 => 5 | 9 => 9 | 20 => 20 | 21 => 21 | 22 => 22 | 24 => 122 | 25 => 123 | 34 => 168 | 36 => 133 | 37 => 42 | 39 => 170 | 44 => 191 | 47 => 162 | 48 => 198 | 50 => 200 | 52 => 154 | 55 => 156 | 59 => 175 | 60 => 49 | 61 => 176 | 65 => 201 | 66 => 202 | 67 => 146 | n => n), (fun | 0 => 1 | 1 => 2 | 2 => 0 | 3 => 4 | 4 => 5 | n => n)⟩
theorem lay_puint : LaysPu.n14 Tryz.prog puRen :=
  { mixed := by kernel_rfl,
    f14 := Tryz.func79.trans (congrArg some (by kernel_rfl)),
    f16 := Tryz.func103.trans (congrArg some (by kernel_rfl)),
    f17 := Tryz.func104.trans (congrArg some (by kernel_rfl)),
    f19 := Tryz.func121.trans (congrArg some (by kernel_rfl)),
    f20 := Tryz.func122.trans (congrArg some (by kernel_rfl)),
    f21 := Tryz.func123.trans (congrArg some (by kernel_rfl)),
    f22 := Tryz.func124.trans (congrArg some (by kernel_rfl)),
    f23 := Tryz.func125.trans (congrArg some (by kernel_rfl)),
    f24 := Tryz.func126.trans (congrArg some (by kernel_rfl)),
    f25 := Tryz.func143.trans (congrArg some (by kernel_rfl)),
    f26 := Tryz.func144.trans (congrArg some (by kernel_rfl)),
    f27 := Tryz.func78.trans (congrArg some (by kernel_rfl)),
    f28 := Tryz.func102.trans (congrArg some (by kernel_rfl)),
    f29 := Tryz.func120.trans (congrArg some (by kernel_rfl)),
    f30 := Tryz.func107.trans (congrArg some (by kernel_rfl)),
    f31 := Tryz.func108.trans (congrArg some (by kernel_rfl)),
    f32 := Tryz.func109.trans (congrArg some (by kernel_rfl)),
    f33 := Tryz.func110.trans (congrArg some (by kernel_rfl)),
    f34 := Tryz.func127.trans (congrArg some (by kernel_rfl)),
    f35 := Tryz.func89.trans (congrArg some (by kernel_rfl)),
    f36 := Tryz.func128.trans (congrArg some (by kernel_rfl)),
    f37 := Tryz.func129.trans (congrArg some (by kernel_rfl)),
    f38 := Tryz.func130.trans (congrArg some (by kernel_rfl)),
    f39 := Tryz.func145.trans (congrArg some (by kernel_rfl)),
    f40 := Tryz.func146.trans (congrArg some (by kernel_rfl)),
    t0 := Tryz.underlying0,
    a0 := Tryz.isAgg0,
    z0 := Tryz.sizeOf0,
    v0 := Tryz.zeroValue0,
    i0 := by kernel_rfl,
    t2 := Tryz.underlying2,
    a2 := Tryz.isAgg2,
    z2 := Tryz.sizeOf2,
    v2 := Tryz.zeroValue2,
    i2 := by kernel_rfl,
    t3 := Tryz.underlying3,
    a3 := Tryz.isAgg3,
    z3 := Tryz.sizeOf3,
    v3 := Tryz.zeroValue3,
    i3 := by kernel_rfl,
    t4 := Tryz.underlying4,
    a4 := Tryz.isAgg4,
    z4 := Tryz.sizeOf4,
    v4 := Tryz.zeroValue4,
    i4 := by kernel_rfl,
    t5 := Tryz.underlying5,
    a5 := Tryz.isAgg5,
    z5 := Tryz.sizeOf5,
    v5 := Tryz.zeroValue5,
    i5 := by kernel_rfl,
    t9 := Tryz.underlying9,
    a9 := Tryz.isAgg9,
    z9 := Tryz.sizeOf9,
    v9 := Tryz.zeroValue9,
    i9 := by kernel_rfl,
    t20 := Tryz.underlying20,
    a20 := Tryz.isAgg20,
    z20 := Tryz.sizeOf20,
    v20 := Tryz.zeroValue20,
    i20 := by kernel_rfl,
    t21 := Tryz.underlying21,
    a21 := Tryz.isAgg21,
    z21 := Tryz.sizeOf21,
    v21 := Tryz.zeroValue21,
    i21 := by kernel_rfl,
    t22 := Tryz.underlying22,
    a22 := Tryz.isAgg22,
    z22 := Tryz.sizeOf22,
    v22 := Tryz.zeroValue22,
    i22 := by kernel_rfl,
    t24 := Tryz.underlying122,
    a24 := Tryz.isAgg122,
    z24 := Tryz.sizeOf122,
    v24 := Tryz.zeroValue122,
    i24 := by kernel_rfl,
    t25 := Tryz.underlying123,
    a25 := Tryz.isAgg123,
    z25 := Tryz.sizeOf123,
    v25 := Tryz.zeroValue123,
    i25 := by kernel_rfl,
    t34 := Tryz.underlying168,
    a34 := Tryz.isAgg168,
    z34 := Tryz.sizeOf168,
    v34 := Tryz.zeroValue168,
    i34 := by kernel_rfl,
    c34 := by kernel_rfl,
    t36 := Tryz.underlying133,
    a36 := Tryz.isAgg133,
    z36 := Tryz.sizeOf133,
    v36 := Tryz.zeroValue133,
    i36 := by kernel_rfl,
    t37 := Tryz.underlying42,
    a37 := Tryz.isAgg42,
    z37 := Tryz.sizeOf42,
    v37 := Tryz.zeroValue42,
    i37 := by kernel_rfl,
    t39 := Tryz.underlying170,
    a39 := Tryz.isAgg170,
    z39 := Tryz.sizeOf170,
    v39 := Tryz.zeroValue170,
    i39 := by kernel_rfl,
    t44 := Tryz.underlying191,
    a44 := Tryz.isAgg191,
    z44 := Tryz.sizeOf191,
    v44 := Tryz.zeroValue191,
    i44 := by kernel_rfl,
    t47 := Tryz.underlying162,
    a47 := Tryz.isAgg162,
    z47 := Tryz.sizeOf162,
    v47 := Tryz.zeroValue162,
    i47 := by kernel_rfl,
    t48 := Tryz.underlying198,
    a48 := Tryz.isAgg198,
    z48 := Tryz.sizeOf198,
    v48 := Tryz.zeroValue198,
    i48 := by kernel_rfl,
    t50 := Tryz.underlying200,
    a50 := Tryz.isAgg200,
    z50 := Tryz.sizeOf200,
    v50 := Tryz.zeroValue200,
    i50 := by kernel_rfl,
    t52 := Tryz.underlying154,
    a52 := Tryz.isAgg154,
    z52 := Tryz.sizeOf154,
    v52 := Tryz.zeroValue154,
    i52 := by kernel_rfl,
    t55 := Tryz.underlying156,
    a55 := Tryz.isAgg156,
    z55 := Tryz.sizeOf156,
    v55 := Tryz.zeroValue156,
    i55 := by kernel_rfl,
    t59 := Tryz.underlying175,
    a59 := Tryz.isAgg175,
    z59 := Tryz.sizeOf175,
    v59 := Tryz.zeroValue175,
    i59 := by kernel_rfl,
    t60 := Tryz.underlying49,
    a60 := Tryz.isAgg49,
    z60 := Tryz.sizeOf49,
    v60 := Tryz.zeroValue49,
    i60 := by kernel_rfl,
    t61 := Tryz.underlying176,
    a61 := Tryz.isAgg176,
    z61 := Tryz.sizeOf176,
    t65 := Tryz.underlying201,
    a65 := Tryz.isAgg201,
    z65 := Tryz.sizeOf201,
    v65 := Tryz.zeroValue201,
    i65 := by kernel_rfl,
    t66 := Tryz.underlying202,
    a66 := Tryz.isAgg202,
    z66 := Tryz.sizeOf202,
    v66 := Tryz.zeroValue202,
    i66 := by kernel_rfl,
    t67 := Tryz.underlying146,
    a67 := Tryz.isAgg146,
    z67 := Tryz.sizeOf146,
    v67 := Tryz.zeroValue146,
    i67 := by kernel_rfl,
    g0 := by kernel_rfl,
    m0 := by kernel_rfl,
    g1 := by kernel_rfl,
    m1 := by kernel_rfl,
    g2 := by kernel_rfl,
    m2 := by kernel_rfl,
    g3 := by kernel_rfl,
    m3 := by kernel_rfl,
    g4 := by kernel_rfl,
    m4 := by kernel_rfl }
theorem lay_ex : Builder.Extra Tryz.prog nmRen :=
  { sizeBuilder := by kernel_rfl, liesBuilder := by kernel_rfl, t5 := by kernel_rfl, a5 := fun _ => by kernel_rfl, z5 := fun _ => by kernel_rfl, v5 := fun _ => by kernel_rfl, infoByte := by kernel_rfl, cellsByte := by kernel_rfl, sizeByte := by kernel_rfl, neB5 := by decide }
end Go.Proofs.YtogfladmgbldcaaGreatDoor
namespace Go.Proofs.YtogfladmgbldcaaGreatDoor
open Go.RowKit Go.Shelf
/-- The library's table of trailing zeros lies in its variable. -/
def Tab (w : World) : Prop := ∀ k, k < 64 → w.cell? ⟨5, k, none⟩ = some (.int .u8 ((Lib.deBruijn64tab.getD k 0 : Nat) : Int))
/-- The library's variables. -/
structure PV (w : World) : Prop where
  tab : Lib.TabIs Tryz.prog w "internal/strconv.uint64pow10" .u64 Lib.pow10Tab
  syn : ∃ tp p, w.var? Tryz.prog "strconv.ErrSyntax" = some #[.iface tp p]
  rng : ∃ tp p, w.var? Tryz.prog "strconv.ErrRange" = some #[.iface tp p]
  tz : Tab w
theorem var_below {w w' : World} {n : String} {cs : Array Value} (hb : Below w.heap.size w w') (h : w.var? Tryz.prog n = some cs) : w'.var? Tryz.prog n = some cs := by
  unfold World.var? at h ⊢
  cases hg : Tryz.prog.globalNamed n with
  | none => rw [hg] at h; cases h
  | some g =>
    rw [hg] at h
    simp only [Option.bind_some] at h ⊢
    cases hk : w.heap[g]? with
    | none => rw [hk] at h; cases h
    | some o => rw [hb.block g (Array.getElem?_eq_some_iff.1 hk).1]; exact h
theorem cell_lt {w : World} {b o : Nat} {v : Value} (h : w.cell? ⟨b, o, none⟩ = some v) : b < w.heap.size := by
  by_cases hb : b < w.heap.size
  · exact hb
  · unfold World.cell? at h
    rw [Array.getElem?_eq_none (by simpa using hb)] at h
    cases h
theorem PV.below {w w' : World} (h : PV w) (hb : Below w.heap.size w w') : PV w' := by
  obtain ⟨t1, p1, h1⟩ := h.syn
  obtain ⟨t2, p2, h2⟩ := h.rng
  exact ⟨var_below hb h.tab, ⟨t1, p1, var_below hb h1⟩, ⟨t2, p2, var_below hb h2⟩, fun k hk => (World.cell?_of_block (hb.block _ (cell_lt (h.tz k hk)))).trans (h.tz k hk)⟩
/-- .. whatever is done from block B on. -/
def PVB (B : Nat) (w : World) : Prop := ∀ y, Below B w y → PV y
theorem PVB.of {w : World} (h : PV w) : PVB w.heap.size w := fun _ hb => h.below hb
theorem PVB.on {B : Nat} {w w' : World} (h : PVB B w) (hb : Below B w w') : PVB B w' := fun _ h2 => h _ (hb.trans h2)
theorem PVB.here {B : Nat} {w : World} (h : PVB B w) : PV w := h w (Below.refl _ _)
theorem grow_below (w : World) (k : Nat) (os : Array Obj) : Below w.heap.size w (Sort.grow (w.drewN k) os) :=
  ⟨rfl, rfl, rfl, by simp [Sort.grow], fun i hi => by
    show (w.heap ++ os)[i]? = w.heap[i]?
    exact Array.getElem?_append_left hi⟩
theorem itoa_any (n : Int) (h0 : -9223372036854775808 ≤ n) (h1 : n ≤ 9223372036854775807) (w : World) (hv : PV w) :
    Calls Tryz.prog 78 #[.int .i64 n] w fun e w' => e = .returned (.string ⟨(Lib.itoa n).toArray⟩) ∧ Below w.heap.size w w' :=
  (Any.strconv_Itoa lay_itoa n h0 h1 w hv.tab).mono fun _ _ ⟨he, k, os, hw⟩ => ⟨he, by rw [hw]; exact grow_below w k os⟩
/-- What ParseUint tells: a number, or an error. -/
def UintR (R : Option Nat) (w : World) (e : Ending) (w' : World) : Prop := Below w.heap.size w w' ∧ match R with
  | some v => e = .returned (.tuple #[.int .u64 (v : Int), .nilIface])
  | none => ∃ (x : Nat) (t : TypeId) (p : Value), x < 18446744073709551616 ∧ e = .returned (.tuple #[.int .u64 (x : Int), .iface t p])
def okOf {α : Type} : Lib.NumEnd α → Option α
  | .ok v => some v
  | _ => none
theorem puint_any (s : ByteArray) (hs : s.size ≤ 281474976710656) (w : World) (hv : PV w) :
    Calls Tryz.prog 79 #[.string s, .int .i64 10, .int .i64 32] w (UintR (okOf (Lib.parseUintB 32 s.data.toList)) w) := by
  rcases h : Lib.parseUintB 32 s.data.toList with u | _ | _
  · skip
    refine (Any.strconv_ParseUint_10_at32_ok lay_puint s (by omega) u h w).mono ?_
    rintro e w' ⟨rfl, hw⟩
    refine ⟨?_, rfl⟩
    rcases hw with rfl | rfl
    · exact Below.refl _ _
    · exact Lib.bytesWorld_below _ _ _
  · skip
    obtain ⟨tp, p, hv1⟩ := hv.syn
    refine (Any.strconv_ParseUint_10_at32_syntax_var lay_puint s hs h tp p w hv1).mono ?_
    rintro e w' ⟨N, rfl, -, -, hb⟩
    exact ⟨hb, 0, _, _, by decide, rfl⟩
  · skip
    obtain ⟨tp, p, hv1⟩ := hv.rng
    refine (Any.strconv_ParseUint_10_at32_range_var lay_puint s hs h tp p w hv1).mono ?_
    rintro e w' ⟨N, rfl, -, -, hb⟩
    exact ⟨hb, 4294967295, _, _, by decide, rfl⟩
theorem rep_any (s : ByteArray) (c : Nat) (w : World) (hc : c ≤ 1000) (hs : s.size ≤ 1000) :
    Calls Tryz.prog 70 #[.string s, .int .i64 (c : Int)] w fun e w' => e = .returned (.string ⟨(Lib.repeatL s.data.toList c).toArray⟩) ∧ Below w.heap.size w w' :=
  Any.strings_Repeat lay_rep lay_ex s c w (by omega) (by
    have := Nat.mul_le_mul hs hc
    omega)
end Go.Proofs.YtogfladmgbldcaaGreatDoor
namespace Go.Proofs.YtogfladmgbldcaaGreatDoor
/-- A file. -/
structure FilV where
  nm : Bs
  by_ : Bs
  sy : Nat
  deriving DecidableEq
/-- A disk: its files rise by their names; fuse none: it has none. -/
structure DskV where
  fs : List FilV
  room : Nat
  fuse : Option Nat
  dead : Bool
def findF (nm : Bs) (l : List FilV) : Option FilV := l.find? (fun f => decide (f.nm = nm))
def putF (f : FilV) : List FilV → List FilV
  | [] => [f]
  | g :: r => if g.nm = f.nm then f :: r else if f.nm < g.nm then f :: g :: r else g :: putF f r
def delF (nm : Bs) (l : List FilV) : List FilV := l.filter (fun f => decide (f.nm ≠ nm))
def Rise (l : List FilV) : Prop := l.Pairwise (fun f g => f.nm < g.nm)
def fuseI : Option Nat → Int
  | none => -1
  | some n => (n : Int)
def DskV.sum (D : DskV) : Nat := D.room + (D.fs.map (fun f => f.by_.length)).sum
def dsk0 : DskV := ⟨[], 4194304, none, false⟩
/-- Bytes are written behind a file: the first k of them are there behind it. -/
def DskV.more (D : DskV) (f : FilV) (s : Bs) : DskV := { D with fs := putF { f with by_ := f.by_ ++ s } D.fs, room := D.room - s.length }
def appD (D : DskV) (nm s : Bs) : DskV × Nat :=
  if D.dead then (D, 8) else if nm.length = 0 ∨ 24 < nm.length then (D, 2)
  else if D.room < s.length ∨ ((findF nm D.fs).isNone = true ∧ 1000 ≤ D.fs.length) then (D, 7)
  else match D.fuse with
    | some k => if k < s.length then ({ D.more ((findF nm D.fs).getD ⟨nm, [], 0⟩) (s.take k) with fuse := none, dead := true }, 9)
      else ({ D.more ((findF nm D.fs).getD ⟨nm, [], 0⟩) s with fuse := some (k - s.length) }, 0)
    | none => (D.more ((findF nm D.fs).getD ⟨nm, [], 0⟩) s, 0)
def withD (D : DskV) (nm : Bs) (act : FilV → DskV × Nat) : DskV × Nat := if D.dead then (D, 8) else match findF nm D.fs with
  | some f => act f
  | none => (D, 11)
def syncD (D : DskV) (nm : Bs) : DskV × Nat := withD D nm fun f => ({ D with fs := putF { f with sy := f.by_.length } D.fs }, 0)
def cutD (D : DskV) (nm : Bs) (n : Int) : DskV × Nat := withD D nm fun f => if n < (f.sy : Int) ∨ (f.by_.length : Int) < n then (D, 2) else
  ({ D with fs := putF { f with by_ := f.by_.take n.toNat } D.fs, room := D.room + (f.by_.length - n.toNat) }, 0)
def remD (D : DskV) (nm : Bs) : DskV × Nat := withD D nm fun f => ({ D with fs := delF nm D.fs, room := D.room + f.by_.length }, 0)
theorem put_find {f : FilV} : ∀ {l : List FilV}, findF f.nm (putF f l) = some f
  | [] => by simp [putF, findF]
  | g :: r => by
    unfold putF
    split
    · simp [findF]
    · next h =>
      split
      · simp [findF]
      · have ih := put_find (f := f) (l := r)
        unfold findF at ih ⊢
        rw [List.find?_cons_of_neg (by simpa using h)]
        exact ih
theorem put_other {f : FilV} {nm : Bs} (hn : nm ≠ f.nm) : ∀ {l : List FilV}, findF nm (putF f l) = findF nm l
  | [] => by simp [putF, findF, Ne.symm hn]
  | g :: r => by
    unfold putF
    split
    · next h =>
      unfold findF
      rw [List.find?_cons_of_neg (by simpa using Ne.symm hn), List.find?_cons_of_neg (by rw [h]; simpa using Ne.symm hn)]
    · split
      · unfold findF
        rw [List.find?_cons_of_neg (by simpa using Ne.symm hn)]
      · have ih := put_other hn (l := r)
        unfold findF at ih ⊢
        by_cases hg : g.nm = nm
        · rw [List.find?_cons_of_pos (by simpa using hg), List.find?_cons_of_pos (by simpa using hg)]
        · rw [List.find?_cons_of_neg (by simpa using hg), List.find?_cons_of_neg (by simpa using hg), ih]
theorem del_find {nm : Bs} {l : List FilV} : findF nm (delF nm l) = none := by
  unfold findF delF
  rw [List.find?_eq_none]
  intro f hf
  have := (List.mem_filter.1 hf).2
  simpa using this
theorem del_other {nm q : Bs} (hn : q ≠ nm) : ∀ {l : List FilV}, findF q (delF nm l) = findF q l
  | [] => rfl
  | g :: r => by
    have ih := del_other hn (l := r)
    unfold findF delF at ih ⊢
    by_cases hg : g.nm = nm
    · rw [List.filter_cons_of_neg (by simpa using hg), List.find?_cons_of_neg (by rw [hg]; simpa using Ne.symm hn), ih]
    · rw [List.filter_cons_of_pos (by simpa using hg)]
      by_cases hq : g.nm = q
      · rw [List.find?_cons_of_pos (by simpa using hq), List.find?_cons_of_pos (by simpa using hq)]
      · rw [List.find?_cons_of_neg (by simpa using hq), List.find?_cons_of_neg (by simpa using hq), ih]
theorem find_nm {nm : Bs} {l : List FilV} {f : FilV} (h : findF nm l = some f) : f.nm = nm ∧ f ∈ l := ⟨by simpa using List.find?_some h, List.mem_of_find?_eq_some h⟩
theorem bs_tri (a b : Bs) : a < b ∨ a = b ∨ b < a := by
  by_cases h1 : a < b
  · exact .inl h1
  · by_cases h2 : b < a
    · exact .inr (.inr h2)
    · exact .inr (.inl (List.le_antisymm (List.not_lt.1 h2) (List.not_lt.1 h1)))
theorem put_mem {f g : FilV} : ∀ {l : List FilV}, g ∈ putF f l → g = f ∨ g ∈ l
  | [], h => .inl (List.mem_singleton.1 h)
  | x :: r, h => by
    unfold putF at h
    split at h
    · rcases List.mem_cons.1 h with h | h
      · exact .inl h
      · exact .inr (List.mem_cons_of_mem _ h)
    · split at h
      · rcases List.mem_cons.1 h with h | h
        · exact .inl h
        · exact .inr h
      · rcases List.mem_cons.1 h with h | h
        · exact .inr (by rw [h]; exact List.mem_cons_self ..)
        · rcases put_mem h with h | h
          · exact .inl h
          · exact .inr (List.mem_cons_of_mem _ h)
theorem put_rise {f : FilV} : ∀ {l : List FilV}, Rise l → Rise (putF f l)
  | [], _ => List.pairwise_singleton _ _
  | g :: r, h => by
    obtain ⟨h1, h2⟩ := List.pairwise_cons.1 h
    unfold putF
    split
    · next e => exact List.pairwise_cons.2 ⟨fun x hx => by rw [← e]; exact h1 x hx, h2⟩
    · next e =>
      split
      · next hl =>
        refine List.pairwise_cons.2 ⟨fun x hx => ?_, h⟩
        rcases List.mem_cons.1 hx with rfl | hx
        · exact hl
        · exact List.lt_trans hl (h1 x hx)
      · next hl =>
        refine List.pairwise_cons.2 ⟨fun x hx => ?_, put_rise h2⟩
        rcases put_mem hx with rfl | hx
        · rcases bs_tri g.nm x.nm with q | q | q
          · exact q
          · exact (e q).elim
          · exact (hl q).elim
        · exact h1 x hx
theorem del_rise {nm : Bs} {l : List FilV} (h : Rise l) : Rise (delF nm l) := h.filter _
def totF (l : List FilV) : Nat := (l.map (fun f => f.by_.length)).sum
theorem tot_cons (f : FilV) (l : List FilV) : totF (f :: l) = f.by_.length + totF l := by simp [totF]
theorem rise_gt {f g : FilV} {l : List FilV} (h : Rise (g :: l)) (hl : f.nm < g.nm) : findF f.nm (g :: l) = none := by
  obtain ⟨h1, _⟩ := List.pairwise_cons.1 h
  unfold findF
  rw [List.find?_eq_none]
  intro x hx q
  have q : x.nm = f.nm := by simpa using q
  rcases List.mem_cons.1 hx with rfl | hx
  · rw [q] at hl; exact List.lt_irrefl _ hl
  · have := h1 x hx
    rw [q] at this
    exact List.lt_irrefl _ (List.lt_trans hl this)
theorem put_new {f : FilV} : ∀ {l : List FilV}, Rise l → findF f.nm l = none → totF (putF f l) = totF l + f.by_.length ∧ (putF f l).length = l.length + 1
  | [], _, _ => by simp [putF, totF]
  | g :: r, h, hn => by
    have hg : g.nm ≠ f.nm := by
      intro e
      unfold findF at hn
      rw [List.find?_cons_of_pos (by simpa using e)] at hn
      cases hn
    have hr : findF f.nm r = none := by
      unfold findF at hn ⊢
      rwa [List.find?_cons_of_neg (by simpa using hg)] at hn
    unfold putF
    rw [if_neg hg]
    split
    · rw [tot_cons f]
      exact ⟨by omega, rfl⟩
    · obtain ⟨h1, h2⟩ := put_new (List.pairwise_cons.1 h).2 hr
      rw [tot_cons, tot_cons, h1]
      exact ⟨by omega, by simp [h2]⟩
theorem put_old {f g : FilV} : ∀ {l : List FilV}, Rise l → findF f.nm l = some g → totF (putF f l) + g.by_.length = totF l + f.by_.length ∧ (putF f l).length = l.length
  | x :: r, h, hn => by
    by_cases hx : x.nm = f.nm
    · have e : x = g := by
        unfold findF at hn
        rw [List.find?_cons_of_pos (by simpa using hx)] at hn
        exact Option.some.inj hn
      unfold putF
      rw [if_pos hx, tot_cons, tot_cons, e]
      exact ⟨by omega, rfl⟩
    · have hr : findF f.nm r = some g := by
        unfold findF at hn ⊢
        rwa [List.find?_cons_of_neg (by simpa using hx)] at hn
      have hl : ¬ f.nm < x.nm := fun hl => by rw [rise_gt h hl] at hn; cases hn
      unfold putF
      rw [if_neg hx, if_neg hl]
      obtain ⟨h1, h2⟩ := put_old (List.pairwise_cons.1 h).2 hr
      rw [tot_cons, tot_cons]
      exact ⟨by omega, by simp [h2]⟩
end Go.Proofs.YtogfladmgbldcaaGreatDoor
namespace Go.Proofs.YtogfladmgbldcaaGreatDoor
open Go.RowKit
open Go.Maps (Keyed)
open Go.ChangeMaps Go.MapKept
/-- How a value reads: as itself. -/
def Rv (v : Value) : Option (DataW Value × List MemPlace) := some (.held v, [])
/-- Block b is a map of at most n entries that holds what M tells. -/
def MpAt (P : Program) (k : TypeId) (w : World) (b n : Nat) (M : Lit → Option Value) : Prop :=
  ∃ D : DataW Value, w.ownsMap P k Rv b n D ∧ ∀ l, WideAt.IsKeyLit l → Maps.has D l = (M l).isSome ∧ ∀ v, M l = some v → ∀ z, D.atKey l z = .held v
def mpPut (M : Lit → Option Value) (k : Lit) (v : Value) : Lit → Option Value := fun l => if l.sameKey k then some v else M l
def mpDel (M : Lit → Option Value) (k : Lit) : Lit → Option Value := fun l => if l.sameKey k then none else M l
section
variable {P : Program} {k : TypeId} {w w' : World} {b n : Nat} {M : Lit → Option Value}
theorem MpAt.lt (h : MpAt P k w b n M) : b < w.heap.size := by obtain ⟨_, h, _⟩ := h; exact h.lt
theorem MpAt.below (h : MpAt P k w b n M) (hb : Below w.heap.size w w') : MpAt P k w' b n M := by
  obtain ⟨D, ⟨es, clock, hg, r⟩, hM⟩ := h
  exact ⟨D, ⟨es, clock, (hb.block b (Array.getElem?_eq_some_iff.1 hg).1).trans hg, r⟩, hM⟩
theorem MpAt.stay (h : MpAt P k w b n M) (hb : w'.heap[b]? = w.heap[b]?) : MpAt P k w' b n M := by
  obtain ⟨D, ⟨es, clock, hg, r⟩, hM⟩ := h
  exact ⟨D, ⟨es, clock, hb.trans hg, r⟩, hM⟩
theorem MpAt.mono (h : MpAt P k w b n M) {m : Nat} (hm : n ≤ m) : MpAt P k w b m M := by obtain ⟨D, h, hM⟩ := h; exact ⟨D, h.mono hm, hM⟩
theorem mp_at (_h : MpAt P k w b n M) {l : Lit} (_hl : WideAt.IsKeyLit l) {v : Value} {ps : List MemPlace} {z : Value} {D : DataW Value} (hD : Maps.has D l = (M l).isSome ∧ ∀ v, M l = some v → ∀ z, D.atKey l z = .held v) (hv : Rv v = some (D.atKey l (.held z), ps)) : v = (M l).getD z := by
  have e : DataW.held v = D.atKey l (.held z) := congrArg Prod.fst (Option.some.inj hv)
  cases hm : M l with
  | none =>
    rw [hm] at hD
    rw [Maps.atKey_of_not_has hD.1] at e
    cases e
    rfl
  | some u =>
    rw [hD.2 u hm] at e
    cases e
    rfl
/-- 'm[k]'. -/
theorem MpAt.look {t e : TypeId} (h : MpAt P k w b n M) (K : Keyed P k) (ht : P.underlying t = some (.map k e)) {z : Value} (hz : (zeroValue e).run P w = .ok z w) {key : Value} {kl : Lit} (hkey : keyOf P k key = some kl) :
    (Instr.lookup t (.map (some b)) key false).run P w = .ok ((M kl).getD z) w := by
  have h2 := h
  obtain ⟨D, ho, hM⟩ := h
  obtain ⟨v, ps, hrun, hv⟩ := ho.lookup K ht hz (zd := .held z) (zp := []) rfl hkey
  rw [hrun, mp_at h2 (K.key hkey) (hM _ (K.key hkey)) hv]
/-- 'v, ok := m[k]'. -/
theorem MpAt.look_ok {t e : TypeId} (h : MpAt P k w b n M) (K : Keyed P k) (ht : P.underlying t = some (.map k e)) {z : Value} (hz : (zeroValue e).run P w = .ok z w) {key : Value} {kl : Lit} (hkey : keyOf P k key = some kl) :
    (Instr.lookup t (.map (some b)) key true).run P w = .ok (.tuple #[(M kl).getD z, .bool (M kl).isSome]) w := by
  have h2 := h
  obtain ⟨D, ho, hM⟩ := h
  obtain ⟨v, ps, hrun, hv⟩ := ho.look_ok K ht hz (zd := .held z) (zp := []) rfl hkey
  rw [hrun, mp_at h2 (K.key hkey) (hM _ (K.key hkey)) hv, (hM _ (K.key hkey)).1]
theorem turned_block {w w' : World} {b : Nat} (h : w.mapTurned w' b) {g : Nat} (hg : g ≠ b) : w'.heap[g]? = w.heap[g]? := by
  obtain ⟨es, clock, es', clock', hb, rfl⟩ := h
  exact heap_setBlock_other hb _ hg
end
end Go.Proofs.YtogfladmgbldcaaGreatDoor
namespace Go.Proofs.YtogfladmgbldcaaGreatDoor
open Go.RowKit
open Go.Maps (Keyed)
open Go.ChangeMaps Go.MapKept
/-- Block b is a map of s keys that holds what M tells; at most n were there at once. -/
def MpS (P : Program) (k : TypeId) (w : World) (b n s : Nat) (M : Lit → Option Value) : Prop :=
  ∃ D : DataW Value, w.ownsMap P k Rv b n D ∧ (∀ l, WideAt.IsKeyLit l → Maps.has D l = (M l).isSome ∧ ∀ v, M l = some v → ∀ z, D.atKey l z = .held v) ∧ Maps.size D = s
section
variable {P : Program} {k : TypeId} {w w' : World} {b n s : Nat} {M : Lit → Option Value}
theorem MpS.at_ (h : MpS P k w b n s M) : MpAt P k w b n M := by obtain ⟨D, h1, h2, _⟩ := h; exact ⟨D, h1, h2⟩
theorem MpS.lt (h : MpS P k w b n s M) : b < w.heap.size := h.at_.lt
theorem MpS.stay (h : MpS P k w b n s M) (hb : w'.heap[b]? = w.heap[b]?) : MpS P k w' b n s M := by
  obtain ⟨D, ⟨es, clock, hg, r⟩, hM⟩ := h
  exact ⟨D, ⟨es, clock, hb.trans hg, r⟩, hM⟩
theorem MpS.congr (h : MpS P k w b n s M) {M' : Lit → Option Value} {s' : Nat} (hM : ∀ l, WideAt.IsKeyLit l → M l = M' l) (hs : s = s') : MpS P k w b n s' M' := by
  obtain ⟨D, h1, h2, h3⟩ := h
  exact ⟨D, h1, fun l hl => by rw [← hM l hl]; exact h2 l hl, h3.trans hs⟩
theorem mps_new (P : Program) (k : TypeId) (w : World) : MpS P k (w.alloc (.map #[] 0)) w.heap.size 0 0 (fun _ => none) :=
  ⟨.map [], World.ownsMap_made w P k Rv, fun l _ => ⟨rfl, fun v h => by cases h⟩, rfl⟩
theorem MpS.len {t e : TypeId} (h : MpS P k w b n s M) (ht : P.underlying t = some (.map k e)) (ty : TypeId) : (Builtin.len_ #[t] ty #[.map (some b)]).run P w = .ok (.int .i64 (s : Int)) w := by
  obtain ⟨D, h1, _, h3⟩ := h
  rw [h1.len ht ty, h3]
theorem MpS.store {t e : TypeId} (h : MpS P k w b n s M) (K : Keyed P k) (ht : P.underlying t = some (.map k e)) (hn : n < maxLen) {key val : Value} {kl : Lit} (hkey : keyOf P k key = some kl) :
    ∃ w', (Instr.mapUpdate t (.map (some b)) key val).run P w = .ok () w' ∧ MpS P k w' b (n + 1) (if (M kl).isSome then s else s + 1) (mpPut M kl val) ∧ w.mapTurned w' b := by
  obtain ⟨D, ho, hM, hs⟩ := h
  obtain ⟨w', hrun, ho', ht'⟩ := ho.store K ht hn (d := .held val) (ps := []) hkey rfl
  refine ⟨w', hrun, ⟨_, ho', fun l hl => ?_, ?_⟩, ht'⟩
  · unfold mpPut
    by_cases he : l = kl
    · subst he
      rw [if_pos (WideAt.sameKey_self hl)]
      exact ⟨Maps.has_put_same ho.isMap hl _, fun v hv z => by cases hv; exact Maps.atKey_put_same ho.isMap hl _ _⟩
    · rw [if_neg (fun q => he (WideAt.sameKey_eq q))]
      refine ⟨(Maps.has_put_other he _).trans (hM l hl).1, fun v hv z => (Maps.atKey_put_other he _ _).trans ((hM l hl).2 v hv z)⟩
  · rw [Maps.size_put (ho.tidy K), hs, (hM kl (K.key hkey)).1]
theorem MpS.drop {t e : TypeId} (h : MpS P k w b n s M) (K : Keyed P k) (ht : P.underlying t = some (.map k e)) {key : Value} {kl : Lit} (hkey : keyOf P k key = some kl) (ty : TypeId) :
    ∃ w', (Builtin.delete_ #[t, k] ty #[.map (some b), key]).run P w = .ok (.tuple #[]) w' ∧ MpS P k w' b n (if (M kl).isSome then s - 1 else s) (mpDel M kl) ∧ w.mapTurned w' b := by
  obtain ⟨D, ho, hM, hs⟩ := h
  obtain ⟨w', hrun, ho', ht'⟩ := ho.drop K ht hkey ty
  refine ⟨w', hrun, ⟨_, ho', fun l hl => ?_, ?_⟩, ht'⟩
  · unfold mpDel
    by_cases he : l = kl
    · subst he
      rw [if_pos (WideAt.sameKey_self hl)]
      exact ⟨Maps.has_del_same, fun v hv => by cases hv⟩
    · rw [if_neg (fun q => he (WideAt.sameKey_eq q))]
      exact ⟨(Maps.has_del_other he).trans (hM l hl).1, fun v hv z => (Maps.atKey_del_other he _).trans ((hM l hl).2 v hv z)⟩
  · have h2 := Maps.size_del (ho.tidy K) (k := kl)
    rw [(hM kl (K.key hkey)).1, hs] at h2
    cases hk : (M kl).isSome with
    | true => rw [hk] at h2; simp only [if_true] at h2 ⊢; omega
    | false => rw [hk] at h2; simp only [Bool.false_eq_true, if_false] at h2 ⊢; omega
end
end Go.Proofs.YtogfladmgbldcaaGreatDoor
namespace Go.Proofs.YtogfladmgbldcaaGreatDoor
open Go.RowKit
open Go.Maps (Keyed)
open Go.ChangeMaps Go.MapKept
theorem lawSt : Keyed Tryz.prog 9 := Maps.string_keyed Tryz.underlying9
/-- What the directory holds. -/
def dirM (C : Bs → Nat) (fs : List FilV) : Lit → Option Value
  | .string nm => (findF nm fs).map (fun f => .pointer (some ⟨C f.nm, 0, none⟩))
  | _ => none
def dskC (b : Nat) (D : DskV) : Array Value := #[.map (some b), .int .i64 (D.room : Int), .int .i64 (fuseI D.fuse), .bool D.dead]
def filC (f : FilV) : Array Value := #[.string ⟨f.by_.toArray⟩, .int .i64 (f.sy : Int)]
/-- A disk at block p, its directory at block b, its files at the blocks that C tells; L: all its blocks. -/
structure DskAt (w : World) (p b n : Nat) (C : Bs → Nat) (L : List Nat) (D : DskV) : Prop where
  d : w.heap[p]? = some (.cells (dskC b D) 76 (0, 0))
  m : MpS Tryz.prog 9 w b n D.fs.length (dirM C D.fs)
  c : ∀ f ∈ D.fs, w.heap[C f.nm]? = some (.cells (filC f) 80 (0, 0))
  inj : ∀ f ∈ D.fs, ∀ g ∈ D.fs, C f.nm = C g.nm → f.nm = g.nm
  pb : p ∈ L ∧ b ∈ L ∧ p ≠ b
  cl : ∀ f ∈ D.fs, C f.nm ∈ L ∧ C f.nm ≠ p ∧ C f.nm ≠ b
  ris : Rise D.fs
  syn : ∀ f ∈ D.fs, f.sy ≤ f.by_.length
  sum : D.room + totF D.fs ≤ 4194304
  fz : ∀ k, D.fuse = some k → k ≤ 9223372036854775807
/-- Nothing but the blocks of L, and new ones, has turned. -/
structure Turns (L : List Nat) (w w' : World) : Prop where
  os : w'.os = w.os
  tape : w'.tape = w.tape
  out : w'.output = w.output
  size : w.heap.size ≤ w'.heap.size
  block : ∀ g, g < w.heap.size → g ∉ L → w'.heap[g]? = w.heap[g]?
theorem Turns.refl (L : List Nat) (w : World) : Turns L w w := ⟨rfl, rfl, rfl, Nat.le_refl _, fun _ _ _ => rfl⟩
theorem Turns.trans {L : List Nat} {a b c : World} (h : Turns L a b) (k : Turns L b c) : Turns L a c := ⟨k.os.trans h.os, k.tape.trans h.tape, k.out.trans h.out, Nat.le_trans h.size k.size, fun g hg hl => (k.block g (Nat.lt_of_lt_of_le hg h.size) hl).trans (h.block g hg hl)⟩
theorem Turns.of {L : List Nat} {w y : World} (h : Below w.heap.size w y) : Turns L w y := ⟨h.os, h.tape, h.output, h.size, fun g hg _ => h.block g hg⟩
theorem Turns.wide {L L' : List Nat} {a b : World} (h : Turns L a b) (hl : ∀ g, g ∈ L → g ∈ L') : Turns L' a b := ⟨h.os, h.tape, h.out, h.size, fun g hg hn => h.block g hg (fun q => hn (hl g q))⟩
theorem Turns.below {L : List Nat} {w0 w w' : World} {B : Nat} (h : Turns L w w') (h0 : Below B w0 w) (hB : B ≤ w.heap.size) (hL : ∀ g ∈ L, B ≤ g) : Below B w0 w' := h0.trans ⟨h.os, h.tape, h.out, h.size, fun g hg => h.block g (by omega) (fun q => by have := hL g q; omega)⟩
theorem DskAt.keep {w w' : World} {p b n : Nat} {C : Bs → Nat} {L : List Nat} {D : DskV} (h : DskAt w p b n C L D) (hk : ∀ g ∈ L, w'.heap[g]? = w.heap[g]?) : DskAt w' p b n C L D :=
  ⟨(hk p h.pb.1).trans h.d, h.m.stay (hk b h.pb.2.1), fun f hf => (hk _ (h.cl f hf).1).trans (h.c f hf), h.inj, h.pb, h.cl, h.ris, h.syn, h.sum, h.fz⟩
theorem DskAt.lt {w : World} {p b n : Nat} {C : Bs → Nat} {L : List Nat} {D : DskV} (h : DskAt w p b n C L D) : p < w.heap.size := (Array.getElem?_eq_some_iff.1 h.d).1
theorem DskAt.cells {w : World} {p b n : Nat} {C : Bs → Nat} {L : List Nat} {D : DskV} (h : DskAt w p b n C L D) : w.cell? ⟨p, 0, none⟩ = some (.map (some b)) ∧ w.cell? ⟨p, 1, none⟩ = some (.int .i64 (D.room : Int)) ∧ w.cell? ⟨p, 2, none⟩ = some (.int .i64 (fuseI D.fuse)) ∧ w.cell? ⟨p, 3, none⟩ = some (.bool D.dead) :=
  ⟨cell_of_row _ _ _ _ _ _ h.d, cell_of_row _ _ _ _ _ _ h.d, cell_of_row _ _ _ _ _ _ h.d, cell_of_row _ _ _ _ _ _ h.d⟩
theorem thaw0 {w : World} {p : Nat} {cs : Array Value} {t : TypeId} (j : Nat) (h : w.heap[p]? = some (.cells cs t (0, 0))) : w.frozen? ⟨p, j, none⟩ = false := by
  unfold World.frozen?
  rw [h]
  simp
set_option maxRecDepth 100000 in
theorem new_any (w : World) : Calls Tryz.prog 16 #[] w fun e w' => ∃ C L, e = .returned (.pointer (some ⟨w.heap.size + 1, 0, none⟩)) ∧ DskAt w' (w.heap.size + 1) w.heap.size 0 C L dsk0 ∧ Below w.heap.size w w' ∧ ∀ g ∈ L, w.heap.size ≤ g := by
  have hmm := @run_makeMap Tryz.prog
  go_enter Tryz.func16, Tryz.ntmps16
  go_wp2
  go_ret
  refine ⟨fun _ => 0, [w.heap.size + 1, w.heap.size], rfl, ⟨?_, ?_, fun f hf => (by cases hf), fun f hf => (by cases hf), ⟨by simp, by simp, by omega⟩, fun f hf => (by cases hf), List.Pairwise.nil, fun f hf => (by cases hf), by decide, fun k hk => (by cases hk)⟩, ((Below.refl _ w).alloc (Nat.le_refl _) _).alloc (by simp) _, fun g hg => by simp at hg; omega⟩
  · have h := heap_alloc_new (w.alloc (.map #[] 0)) (.cells #[.map (some w.heap.size), .int .i64 4194304, .int .i64 (-1), .bool false] 76)
    rw [show (w.alloc (.map #[] 0)).heap.size = w.heap.size + 1 by simp] at h
    exact h
  · refine ((mps_new Tryz.prog 9 w).congr (fun l _ => ?_) rfl).stay (heap_alloc_old _ _ (by simp))
    unfold dirM
    split <;> rfl
set_option maxRecDepth 100000 in
theorem dead_any {p b n : Nat} {C : Bs → Nat} {L : List Nat} {D : DskV} (w : World) (h : DskAt w p b n C L D) : Calls Tryz.prog 22 #[.pointer (some ⟨p, 0, none⟩)] w fun e w' => e = .returned (.bool D.dead) ∧ w = w' := by
  obtain ⟨c0, c1, c2, c3⟩ := h.cells
  go_enter Tryz.func22, Tryz.ntmps22
  go_wp2
  go_ret
  exact ⟨rfl, rfl⟩
set_option maxRecDepth 100000 in
theorem powered_dead {p b n : Nat} {C : Bs → Nat} {L : List Nat} {D : DskV} (w : World) (h : DskAt w p b n C L D) (hd : D.dead = true) (f : FuncId) (cap : Array Value) : Calls Tryz.prog 43 #[.pointer (some ⟨p, 0, none⟩), .func (.func f) #[] cap] w fun e w' => e = .returned (.int .i64 8) ∧ w = w' := by
  obtain ⟨c0, c1, c2, c3⟩ := h.cells
  rw [hd] at c3
  go_enter Tryz.func43, Tryz.ntmps43
  go_wp2
  go_ret
  exact ⟨rfl, rfl⟩
set_option maxRecDepth 100000 in
theorem powered_any {p b n : Nat} {C : Bs → Nat} {L : List Nat} {D : DskV} (w : World) (h : DskAt w p b n C L D) (hd : D.dead = false) (f : FuncId) (hE : ∀ (xs : Array Value) (y : World), (callFunc f xs).run Tryz.prog y = .ok (.enter f xs) y) (cap : Array Value) {R : Int → World → Prop} (hf : Calls Tryz.prog f cap w fun e w' => ∃ k, e = .returned (.int .i64 k) ∧ R k w') :
    Calls Tryz.prog 43 #[.pointer (some ⟨p, 0, none⟩), .func (.func f) #[] cap] w fun e w' => ∃ k, e = .returned (.int .i64 k) ∧ R k w' := by
  obtain ⟨c0, c1, c2, c3⟩ := h.cells
  rw [hd] at c3
  have HF := Lib.hid hf
  clear hf
  go_enter Tryz.func43, Tryz.ntmps43
  go_upto_region 5 with fail
  go_wp2_with fail
  refine HF.out.mono ?_
  rintro e w' ⟨k, rfl, hr⟩
  have HR := Lib.hid hr
  clear hr
  go_wp2
  go_ret
  exact ⟨k, rfl, HR.out⟩
end Go.Proofs.YtogfladmgbldcaaGreatDoor
