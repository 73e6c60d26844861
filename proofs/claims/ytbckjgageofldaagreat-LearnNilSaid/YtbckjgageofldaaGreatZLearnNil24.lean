/- Readers: Num, Below, Str. Condition: the reader lies there. -/
import Derived.Test.YtbckjgageofldaaGreatZLearnNil23
import Derived.Test.YtbckjgageofldaaGreatZLearnNil14
import Derived.Deep.DeepCutAuto
import Derived.Test.YtbckjgageofldaaGreatZLearnNil16
import Derived.Test.YtbckjgageofldaaGreatZLearnNil8
import Derived.Test.YtbckjgageofldaaGreatZLearnNil10
import Derived.Laws.EntriesVeiled
namespace Go.Proofs.YtbckjgageofldaaGreat
open Go.RowKit
theorem bigN_take {l : List UInt8} {i : Nat} (hi : i < l.length) : bigN (l.take (i + 1)) = bigN (l.take i) * 256 + (l.getD i 0).toNat := by
 rw [List.take_succ_eq_append_getElem hi, bigN_snoc]
 simp [List.getD, List.getElem?_eq_getElem hi]
theorem bigN_small {l : List UInt8} {i : Nat} (hl : l.length ≤ 8) (hi : i < l.length) : bigN (l.take i) < 72057594037927936 := by
 have h := bigN_lt (l.take i)
 rw [List.length_take] at h
 have h2 : (256 : Nat) ^ min i l.length ≤ 256 ^ 7 := Nat.pow_le_pow_right (by omega) (by omega)
 have h3 : (256 : Nat) ^ 7 = 72057594037927936 := by decide
 omega
theorem bigN_most {l : List UInt8} (hl : l.length ≤ 8) : bigN l < 18446744073709551616 := by
 have h := bigN_lt l
 have h2 : (256 : Nat) ^ l.length ≤ 256 ^ 8 := Nat.pow_le_pow_right (by omega) (by omega)
 have h3 : (256 : Nat) ^ 8 = 18446744073709551616 := by decide
 omega
theorem take_cases (R : RdV) (n : Nat) : ((R.take n).2.1 = true ∧ (R.take n).1.length = n) ∨ ((R.take n).2.1 = false ∧ (R.take n).1 = []) := by
 unfold RdV.take
 split
 ·
  split
  ·
   exact .inl ⟨rfl, by simp; omega⟩
  ·
   exact .inr ⟨rfl, rfl⟩
 ·
  exact .inr ⟨rfl, rfl⟩
theorem or_bv (x y : BitVec 64) : bits .or .u64 (x.toNat : Int) (y.toNat : Int) = ((x ||| y).toNat : Int) := by
 have h : ∀ z : BitVec 64, BitVec.ofInt 64 (z.toNat : Int) = z := fun z => by rw [BitVec.ofInt_natCast]; simp
 show IntKind.u64.wrap ((BitVec.ofInt 64 (x.toNat : Int) ||| BitVec.ofInt 64 (y.toNat : Int)).toNat : Int) = _
 rw [h, h, IntKind.wrap_u64]
 have := (x ||| y).isLt
 omega
theorem or_add (n b : Nat) (hn : n < 72057594037927936) (hb : b < 256) : bits BinOp.or IntKind.u64 ((n : Int) * 256) (IntKind.u64.wrap (b : Int)) = ((n * 256 + b : Nat) : Int) := by
 have h := or_bv (BitVec.ofNat 64 (n * 256)) (BitVec.ofNat 64 b)
 have e1 : (BitVec.ofNat 64 (n * 256)).toNat = n * 256 := by simp; omega
 have e2 : (BitVec.ofNat 64 b).toNat = b := by simp; omega
 rw [BitVec.toNat_or, e1, e2] at h
 rw [IntKind.wrap_u64, show ((n : Int) * 256) = ((n * 256 : Nat) : Int) by omega, show (b : Int) % 18446744073709551616 = (b : Int) by omega, h]
 congr 1
 rw [show n * 256 = 2 ^ 8 * n by omega]
 exact (Nat.two_pow_add_eq_or_of_lt hb n).symm
set_option maxRecDepth 100000 in
set_option maxHeartbeats 16000000 in
theorem rnumber_any (R : RdV) (g : Nat) (w : World) (h : RdAt w g R) :
  Calls Tryz.prog 173 #[.pointer (some ⟨g, 0, none⟩)] w fun e w' => e = .returned (.int .u64 (R.num.1 : Int)) ∧ RdAt w' g R.num.2 ∧ Only g w w' := by
 have hb := byte_any R g w h
 unfold RdV.num
 clear h
 obtain ⟨⟨b, R1⟩, hB⟩ : ∃ x, R.byte = x := ⟨_, rfl⟩
 rw [hB] at hb ⊢
 simp only at hb ⊢
 clear hB
 have hb8 := b.toNat_lt
 obtain ⟨n, hn⟩ : ∃ n, b.toNat = n := ⟨_, rfl⟩
 rw [hn] at hb hb8 ⊢
 clear hn
 have Hb := Lib.hid hb; clear hb
 by_cases h248 : n < 248
 ·
  rw [if_pos h248]
  have hlt' : (n : Int) < 248 := by omega
  have hwrap : IntKind.u64.wrap (n : Int) = (n : Int) := by rw [IntKind.wrap_u64]; omega
  clear hb8 h248
  go_enter Tryz.func173, Tryz.ntmps173
  go_wp2_with ((with_reducible refine Hb.out.mono ?_); rintro e w2 ⟨rfl, h2⟩; have H2 := Lib.hid h2; clear h2)
  go_ret
  exact ⟨rfl, H2.out⟩
 ·
  rw [if_neg h248]
  have hlt' : ¬ (n : Int) < 248 := by omega
  obtain ⟨k, hk⟩ : ∃ k, n = k + 247 := ⟨n - 247, by omega⟩
  subst hk
  rw [show k + 247 - 247 = k by omega]
  have hk8 : k ≤ 8 := by omega
  have hsub : IntKind.i64.wrap (((k + 247 : Nat) : Int) - 247) = (k : Int) := by rw [IntKind.wrap_i64]; omega
  have hwr1 : IntKind.i64.wrap ((k + 247 : Nat) : Int) = ((k + 247 : Nat) : Int) := by rw [IntKind.wrap_i64]; omega
  have hwr2 : IntKind.u64.wrap (k : Int) = (k : Int) := by rw [IntKind.wrap_u64]; omega
  have Ht := Lib.hid (fun (y : World) (hy : RdAt y g R1) => take_any R1 k (by omega) g y hy)
  unfold RdV.wide
  have hcase := take_cases R1 k
  generalize R1.take k = X at *
  obtain ⟨t, ok, R2⟩ := X
  simp only at Ht hcase ⊢
  clear hb8 h248
  obtain ⟨m, hm⟩ : ∃ m : Int, ((k + 247 : Nat) : Int) = m := ⟨_, rfl⟩
  rw [hm] at Hb hlt' hsub hwr1
  clear hm
  rcases hcase with ⟨rfl, hl⟩ | ⟨rfl, rfl⟩
  ·
   simp only [if_true]
   obtain ⟨⟨rn, RR⟩, hres⟩ : ∃ x, (if bigN t < 248 ∨ wid (bigN t) ≠ k then (0, R2.fail 4) else (bigN t, R2)) = x := ⟨_, rfl⟩
   rw [hres]
   have Hres := Lib.hid hres; clear hres
   have hk1 : (k : Int) ≤ 8 := by omega
   go_enter Tryz.func173, Tryz.ntmps173
   go_upto_region 9 with (first
    | ((with_reducible refine Hb.out.mono ?_); rintro e w2 ⟨rfl, h2⟩; have H2 := Lib.hid h2; clear h2 Hb)
    | ((with_reducible refine (Ht.out _ H2.out.1).mono ?_); rintro e w3 ⟨rfl, h3⟩; have H3 := Lib.hid (And.intro h3.1 (H2.out.2.trans h3.2)); clear h3 H2 Ht))
   go_wp2_with fail
   go_loopw [7, 28] (fun s7 s28 wr => ∃ i : Nat, i ≤ k ∧ s28 = .int .i64 (i : Int) ∧ s7 = .int .u64 (bigN (t.take i) : Int) ∧ w3 = wr) (fun _ s28 _ => k - (intOf s28).toNat)
   case atStart => exact ⟨0, by omega, rfl, rfl, rfl⟩
   case round =>
    obtain ⟨i, hi, rfl, rfl, rfl⟩ := hrel
    by_cases hlt : i < k
    ·
     have hlt2 : (i : Int) < (k : Int) := by omega
     have hsucc := tsucc (n := i) (by omega)
     have hst := bigN_take (l := t) (i := i) (by omega)
     have hsm := bigN_small (l := t) (i := i) (by omega) (by omega)
     have hch : (⟨t.toArray⟩ : ByteArray).size = k := by rw [bs_size]; exact hl
     have hor := or_add (bigN (t.take i)) (t.getD i 0).toNat hsm (t.getD i 0).toNat_lt
     have hix : (⟨t.toArray⟩ : ByteArray)[i]'(by rw [hch]; exact hlt) = t.getD i 0 := by
      show t.toArray[i]'(by simp; omega) = _
      simp [List.getD, List.getElem?_eq_getElem (show i < t.length by omega)]
     rw [← hst] at hor
     rw [← hix] at hor
     clear hst hix
     go_wp2_with fail
     refine ⟨⟨i + 1, hlt, by simp, ?_, trivial⟩, by simp [intOf]; omega⟩
     rw [← hor]
    ·
     have hlt2 : ¬ (i : Int) < (k : Int) := by omega
     have hall : t.take i = t := List.take_of_length_le (by omega)
     rw [hall]
     have hb64 := bigN_most (l := t) (by omega)
     obtain ⟨N, hN⟩ : ∃ N, bigN t = N := ⟨_, rfl⟩
     have hq := Hres.out
     rw [hN] at hb64 hq
     have Hwd := Lib.hid (fun y : World => width_any N (by omega) y)
     have Hfl := Lib.hid (fun (y : World) (hy : RdAt y g R2) => fail_form R2 g y hy)
     obtain ⟨v, hv⟩ : ∃ v, wid N = v := ⟨_, rfl⟩
     rw [hv] at Hwd hq
     clear hb64 hall hv
     have HN := Lib.hid hN; clear hN
     by_cases c1 : N < 248
     ·
      have c1' : (N : Int) < 248 := by omega
      rw [if_pos (.inl c1)] at hq
      cases hq
      rw [HN.out]
      clear c1
      go_wp2_with (first
       | ((with_reducible refine (Hwd.out _).mono ?_); rintro e w' ⟨rfl, rfl⟩)
       | ((with_reducible refine (Hfl.out _ H3.out.1).mono ?_); rintro e w4 ⟨rfl, h4⟩; have H4 := Lib.hid (And.intro h4.1 (H3.out.2.trans h4.2)); clear h4))
      go_ret
      exact ⟨rfl, H4.out⟩
     ·
      have c1' : ¬ (N : Int) < 248 := by omega
      by_cases c2 : v = k
      ·
       subst c2
       rw [if_neg (by omega)] at hq
       cases hq
       rw [HN.out]
       clear c1
       go_wp2_with ((with_reducible refine (Hwd.out _).mono ?_); rintro e w' ⟨rfl, rfl⟩)
       go_ret
       exact ⟨rfl, H3.out⟩
      ·
       have c2' : ((v : Int) != (k : Int)) = true := by rw [bne_iff_ne]; omega
       rw [if_pos (.inr c2)] at hq
       cases hq
       rw [HN.out]
       have C2 := Lib.hid c2; clear c1 c2
       go_wp2_with (first
        | ((with_reducible refine (Hwd.out _).mono ?_); rintro e w' ⟨rfl, rfl⟩)
        | ((with_reducible refine (Hfl.out _ H3.out.1).mono ?_); rintro e w4 ⟨rfl, h4⟩; have H4 := Lib.hid (And.intro h4.1 (H3.out.2.trans h4.2)); clear h4))
       go_ret
       exact ⟨rfl, H4.out⟩
  ·
   simp only [Bool.false_eq_true, if_false]
   go_enter Tryz.func173, Tryz.ntmps173
   go_wp2_with (first
    | ((with_reducible refine Hb.out.mono ?_); rintro e w2 ⟨rfl, h2⟩; have H2 := Lib.hid h2; clear h2 Hb)
    | ((with_reducible refine (Ht.out _ H2.out.1).mono ?_); rintro e w3 ⟨rfl, h3⟩; have H3 := Lib.hid (And.intro h3.1 (H2.out.2.trans h3.2)); clear h3 H2 Ht))
   go_ret
   exact ⟨rfl, H3.out⟩
theorem rnum_lt (R : RdV) : R.num.1 < 18446744073709551616 := by
 unfold RdV.num
 have hb := R.byte.1.toNat_lt
 split
 ·
  show R.byte.1.toNat < _
  omega
 ·
  unfold RdV.wide
  rcases take_cases R.byte.2 (R.byte.1.toNat - 247) with ⟨h1, h2⟩ | ⟨h1, h2⟩
  ·
   rw [if_pos h1]
   split
   ·
    show 0 < _
    omega
   ·
    exact bigN_most (by omega)
  ·
   rw [h1]
   simp
theorem below_lt (R : RdV) (n : Nat) (hn : 0 < n) : (R.below n).1 < n := by
 unfold RdV.below
 split
 ·
  split
  ·
   assumption
  ·
   exact hn
 ·
  exact hn
set_option maxRecDepth 100000 in
set_option maxHeartbeats 8000000 in
theorem below_any (R : RdV) (n g : Nat) (w : World) (h : RdAt w g R) :
  Calls Tryz.prog 149 #[.pointer (some ⟨g, 0, none⟩), .int .u64 (n : Int)] w fun e w' => e = .returned (.int .u64 ((R.below n).1 : Int)) ∧ RdAt w' g (R.below n).2 ∧ Only g w w' := by
 have hb := rnumber_any R g w h
 have hlt := rnum_lt R
 unfold RdV.below
 clear h
 generalize R.num = X at *
 obtain ⟨v, R1⟩ := X
 simp only at hb hlt ⊢
 have hwrap : IntKind.u64.wrap (v : Int) = (v : Int) := by rw [IntKind.wrap_u64]; omega
 clear hlt
 have Hb := Lib.hid hb; clear hb
 obtain ⟨b, hbe⟩ : ∃ b, decide (R1.e ≠ 0) = b := ⟨_, rfl⟩
 have Hfd := Lib.hid (fun (y : World) (hy : RdAt y g R1) => (show Calls Tryz.prog 151 #[.pointer (some ⟨g, 0, none⟩)] y fun e w' => e = .returned (.bool b) ∧ y = w' by rw [← hbe]; exact failed_any R1 g y hy))
 have Hfl := Lib.hid (fun (y : World) (hy : RdAt y g R1) => fail_form R1 g y hy)
 by_cases he : R1.e = 0
 ·
  rw [if_pos he]
  have hb0 : b = false := by rw [← hbe]; simp [he]
  subst hb0
  clear hbe he
  by_cases hv : v < n
  ·
   have hv' : ¬ (n : Int) ≤ (v : Int) := by omega
   rw [if_pos hv]
   go_enter Tryz.func149, Tryz.ntmps149
   go_wp2_with (first
    | ((with_reducible refine Hb.out.mono ?_); rintro e w2 ⟨rfl, h2⟩; have H2 := Lib.hid h2; clear h2 Hb)
    | ((with_reducible refine (Hfd.out _ H2.out.1).mono ?_); rintro e w' ⟨rfl, rfl⟩))
   go_ret
   exact ⟨rfl, H2.out⟩
  ·
   have hv' : (n : Int) ≤ (v : Int) := by omega
   rw [if_neg hv]
   go_enter Tryz.func149, Tryz.ntmps149
   go_wp2_with (first
    | ((with_reducible refine Hb.out.mono ?_); rintro e w2 ⟨rfl, h2⟩; have H2 := Lib.hid h2; clear h2 Hb)
    | ((with_reducible refine (Hfd.out _ H2.out.1).mono ?_); rintro e w' ⟨rfl, rfl⟩)
    | ((with_reducible refine (Hfl.out _ H2.out.1).mono ?_); rintro e w4 ⟨rfl, h4⟩; have H4 := Lib.hid (And.intro h4.1 (H2.out.2.trans h4.2)); clear h4))
   go_ret
   exact ⟨rfl, H4.out⟩
 ·
  rw [if_neg he]
  have hb0 : b = true := by rw [← hbe]; simp [he]
  subst hb0
  clear hbe he
  go_enter Tryz.func149, Tryz.ntmps149
  go_wp2_with (first
   | ((with_reducible refine Hb.out.mono ?_); rintro e w2 ⟨rfl, h2⟩; have H2 := Lib.hid h2; clear h2 Hb)
   | ((with_reducible refine (Hfd.out _ H2.out.1).mono ?_); rintro e w' ⟨rfl, rfl⟩))
  go_ret
  exact ⟨rfl, H2.out⟩
set_option maxHeartbeats 4000000 in
theorem rbelow_any (R : RdV) (n g : Nat) (w : World) (h : RdAt w g R) :
  Calls Tryz.prog 153 #[.pointer (some ⟨g, 0, none⟩), .int .u64 (n : Int)] w fun e w' => e = .returned (.int .u64 ((R.below n).1 : Int)) ∧ RdAt w' g (R.below n).2 ∧ Only g w w' := by
 have Hb := Lib.hid (below_any R n g w h); clear h
 go_enter Tryz.func153, Tryz.ntmps153
 go_wp2_with ((with_reducible refine Hb.out.mono ?_); rintro e w2 ⟨rfl, h2⟩; have H2 := Lib.hid h2; clear h2 Hb)
 go_ret
 exact ⟨rfl, H2.out⟩
set_option maxHeartbeats 4000000 in
theorem rstr2_any (R : RdV) (m g : Nat) (hm : m < 1000000) (w : World) (h : RdAt w g R) :
  Calls Tryz.prog 88 #[.pointer (some ⟨g, 0, none⟩), .int .i64 (m : Int)] w fun e w' => e = .returned (.string ⟨(R.str m).1.toArray⟩) ∧ RdAt w' g (R.str m).2 ∧ Only g w w' := by
 have hb : Calls Tryz.prog 149 #[.pointer (some ⟨g, 0, none⟩), .int .u64 ((m : Int) + 1)] w fun e w' => e = .returned (.int .u64 ((R.below (m + 1)).1 : Int)) ∧ RdAt w' g (R.below (m + 1)).2 ∧ Only g w w' := below_any R (m + 1) g w h
 have hlt := below_lt R (m + 1) (by omega)
 clear h
 unfold RdV.str
 generalize R.below (m + 1) = X at *
 obtain ⟨n, R1⟩ := X
 simp only at hb hlt ⊢
 have Ht := Lib.hid (fun (y : World) (hy : RdAt y g R1) => take_any R1 n (by omega) g y hy)
 generalize R1.take n = Y at *
 obtain ⟨t, ok, R2⟩ := Y
 simp only at Ht ⊢
 have hw1 : IntKind.u64.wrap (m : Int) = (m : Int) := by rw [IntKind.wrap_u64]; omega
 have hw2 : IntKind.u64.wrap ((m : Int) + 1) = ((m + 1 : Nat) : Int) := by rw [IntKind.wrap_u64]; omega
 have hmx : max (m : Int) 0 = (m : Int) := by omega
 have Hb := Lib.hid hb; clear hb hlt
 go_enter Tryz.func88, Tryz.ntmps88
 go_wp2_with (first
  | ((with_reducible refine Hb.out.mono ?_); rintro e w2 ⟨rfl, h2⟩; have H2 := Lib.hid h2; clear h2 Hb)
  | ((with_reducible refine (Ht.out _ H2.out.1).mono ?_); rintro e w3 ⟨rfl, h3⟩; have H3 := Lib.hid (And.intro h3.1 (H2.out.2.trans h3.2)); clear h3 H2 Ht))
 go_ret
 exact ⟨rfl, H3.out⟩
end Go.Proofs.YtbckjgageofldaaGreat
namespace Go.Proofs.YtbckjgageofldaaGreat
open Go.RowKit
theorem tab_cell {w : World} {g : Nat} {t : TabV} (h : TabAt w g t) {i : Nat} (hi : i < 4) : w.cell? ⟨g, i * 3, none⟩ = some (.int .u32 ((t.at_ i).seq.toNat : Int)) ∧ w.cell? ⟨g, i * 3 + 1, none⟩ = some (.int .u8 ((t.at_ i).code : Int)) ∧ w.cell? ⟨g, i * 3 + 2, none⟩ = some (.string (t.at_ i).text) := by
 obtain ⟨⟨a0, a1, a2⟩, ⟨b0, b1, b2⟩, ⟨c0, c1, c2⟩, ⟨d0, d1, d2⟩⟩ := h.cells
 have h1 : i = 0 ∨ i = 1 ∨ i = 2 ∨ i = 3 := by omega
 rcases h1 with rfl | rfl | rfl | rfl
 ·
  exact ⟨a0, a1, a2⟩
 ·
  exact ⟨b0, b1, b2⟩
 ·
  exact ⟨c0, c1, c2⟩
 ·
  exact ⟨d0, d1, d2⟩
theorem TabAt.below' {w w' : World} {g : Nat} {t : TabV} (h : TabAt w g t) (hb : Below w.heap.size w w') : TabAt w' g t := (hb.block g (Array.getElem?_eq_some_iff.1 h).1).trans h
end Go.Proofs.YtbckjgageofldaaGreat
namespace Go.Proofs.YtbckjgageofldaaGreat
open Go.RowKit
def RdV.lastP (R : RdV) : LastV × RdV :=
 if (R.below 4294967296).1 = 0 then (lastNone, (R.below 4294967296).2)
 else (⟨BitVec.ofNat 32 (R.below 4294967296).1, (R.below 4294967296).2.byte.1.toNat, ⟨((R.below 4294967296).2.byte.2.str 64).1.toArray⟩⟩, ((R.below 4294967296).2.byte.2.str 64).2)
def RdV.last (R : RdV) : LastV × RdV := (R.lastP.1, if 3 < R.lastP.1.code then R.lastP.2.fail 4 else R.lastP.2)
def RdV.tabP (R : RdV) : Nat → TabV × RdV
 | 0 => (tabNone, R)
 | i + 1 => ((R.tabP i).1.put i (R.tabP i).2.last.1, (R.tabP i).2.last.2)
def RdV.tab (R : RdV) : TabV × RdV := (if (R.tabP 4).2.e = 0 then (R.tabP 4).1 else tabNone, (R.tabP 4).2)
structure But (g n : Nat) (w w' : World) : Prop where
 os : w'.os = w.os
 tape : w'.tape = w.tape
 output : w'.output = w.output
 size : w.heap.size ≤ w'.heap.size
 block : ∀ k, k < n → k ≠ g → w'.heap[k]? = w.heap[k]?
theorem But.refl (g n : Nat) (w : World) : But g n w w := ⟨rfl, rfl, rfl, Nat.le_refl _, fun _ _ _ => rfl⟩
theorem But.trans {g n : Nat} {a b c : World} (h : But g n a b) (k : But g n b c) : But g n a c :=
 ⟨k.os.trans h.os, k.tape.trans h.tape, k.output.trans h.output, Nat.le_trans h.size k.size, fun i hi hg => (k.block i hi hg).trans (h.block i hi hg)⟩
theorem But.mono {g n m : Nat} {a b : World} (h : But g n a b) (hm : m ≤ n) : But g m a b := ⟨h.os, h.tape, h.output, h.size, fun k hk hg => h.block k (by omega) hg⟩
theorem Only.but {g : Nat} {a b : World} (h : Only g a b) (n : Nat) : But g n a b := ⟨h.os, h.tape, h.output, by rw [h.size]; exact Nat.le_refl _, fun k _ hg => h.block k hg⟩
theorem but_of {n : Nat} {a b : World} (h : Below n a b) (g : Nat) : But g n a b := ⟨h.os, h.tape, h.output, h.size, fun k hk _ => h.block k hk⟩
theorem But.below {g n : Nat} {a b : World} (h : But g n a b) (hg : n ≤ g) : Below n a b := ⟨h.os, h.tape, h.output, h.size, fun k hk => h.block k hk (by omega)⟩
def LastRow (w : World) (g : Nat) (x : LastV) : Prop := w.heap[g]? = some (.cells (lastCells x).toArray 29 (0, 0))
theorem LastRow.cells {w : World} {g : Nat} {x : LastV} (h : LastRow w g x) : w.cell? ⟨g, 0, none⟩ = some (.int .u32 (x.seq.toNat : Int)) ∧ w.cell? ⟨g, 1, none⟩ = some (.int .u8 (x.code : Int)) ∧ w.cell? ⟨g, 2, none⟩ = some (.string x.text) :=
 ⟨cell_of_row _ _ _ _ _ _ h, cell_of_row _ _ _ _ _ _ h, cell_of_row _ _ _ _ _ _ h⟩
theorem LastRow.lt {w : World} {g : Nat} {x : LastV} (h : LastRow w g x) : g < w.heap.size := (Array.getElem?_eq_some_iff.1 h).1
theorem LastRow.thawed {w : World} {g : Nat} {x : LastV} (h : LastRow w g x) (j : Nat) : w.frozen? ⟨g, j, none⟩ = false := by
 unfold LastRow at h
 simp [World.frozen?, h]
theorem LastRow.only {w w' : World} {g q : Nat} {x : LastV} (h : LastRow w g x) (hq : g ≠ q) (ho : Only q w w') : LastRow w' g x := (ho.block g hq).trans h
theorem LastRow.code {w : World} {g : Nat} {x : LastV} (h : LastRow w g x) (c : Nat) : LastRow (w.setCell ⟨g, 1, none⟩ (.int .u8 (c : Int))) g ⟨x.seq, c, x.text⟩ := by
 unfold LastRow at *
 rw [heap_setCell_same _ _ _ _ _ _ h]
 rfl
theorem LastRow.text {w : World} {g : Nat} {x : LastV} (h : LastRow w g x) (t : ByteArray) : LastRow (w.setCell ⟨g, 2, none⟩ (.string t)) g ⟨x.seq, x.code, t⟩ := by
 unfold LastRow at *
 rw [heap_setCell_same _ _ _ _ _ _ h]
 rfl
theorem RdAt.set {w : World} {g q i : Nat} {R : RdV} {v : Value} (h : RdAt w g R) (hq : g ≠ q) : RdAt (w.setCell ⟨q, i, none⟩ v) g R := h.other hq (Only.set q i w v)
end Go.Proofs.YtbckjgageofldaaGreat
namespace Go.Proofs.YtbckjgageofldaaGreat
open Go.RowKit
theorem bl_cases : ∀ (a b : List UInt8), (Op.bytesLess a b || a == b) = !Op.bytesLess b a
 | [], [] => rfl
 | [], b :: m => by simp [Op.bytesLess]
 | a :: l, [] => by simp [Op.bytesLess]
 | a :: l, b :: m => by
  have h := bl_cases l m
  unfold Op.bytesLess
  by_cases h1 : a < b
  ·
   have h2 : ¬ b < a := by rw [UInt8.lt_iff_toNat_lt] at *; omega
   have h3 : a ≠ b := by rintro rfl; exact h2 h1
   simp [h1, h2, Ne.symm h3]
  ·
   by_cases h2 : b < a
   ·
    have h3 : a ≠ b := by rintro rfl; exact h1 h2
    simp [h1, h2, h3]
   ·
    have h3 : a = b := by rw [UInt8.lt_iff_toNat_lt] at *; exact UInt8.toNat_inj.1 (by omega)
    subst h3
    simpa [h1] using h
theorem sle_not (k last : ByteArray) : (Op.bytesLess k.toList last.toList || k.toList == last.toList) = !slt last k := bl_cases _ _
def RdV.pair (R : RdV) (last : ByteArray) : (ByteArray × ByteArray) × RdV :=
 ((⟨(R.str 16).1.toArray⟩, ⟨((R.str 16).2.str 64).1.toArray⟩), if slt last ⟨(R.str 16).1.toArray⟩ = true then ((R.str 16).2.str 64).2 else ((R.str 16).2.str 64).2.fail 4)
def RdV.keysP : Nat → Sh → ByteArray → RdV → Sh × RdV
 | 0, S, _, R => (S, R)
 | n + 1, S, last, R => if (R.pair last).2.e = 0 then RdV.keysP n (putSh (R.pair last).1.1 (R.pair last).1.2 S (S.look (R.pair last).1.1)) (R.pair last).1.1 (R.pair last).2 else (.nil, (R.pair last).2)
def RdV.keys (R : RdV) : Sh × RdV := RdV.keysP (R.below 257).1 .nil ByteArray.empty (R.below 257).2
theorem tsucc_u {n : Nat} (h : n < 1000000) : IntKind.u64.wrap ((n : Int) + 1) = ((n + 1 : Nat) : Int) := by rw [IntKind.wrap_u64]; omega
theorem TreeAt.only {w w' : World} {g : Nat} {R R' : RdV} (hr : RdAt w g R) (hr' : RdAt w' g R') (ho : Only g w w') : ∀ {T : Tr}, TreeAt w T → TreeAt w' T
 | .nil, _ => trivial
 | .node b _ _ _ _ _, ⟨h1, h2, h3⟩ => ⟨(ho.block b (by
   rintro rfl
   unfold NodeAt at h1
   have := hr.row
   rw [h1] at this
   simp at this)).trans h1, TreeAt.only hr hr' ho h2, TreeAt.only hr hr' ho h3⟩
end Go.Proofs.YtbckjgageofldaaGreat
namespace Go.Proofs.YtbckjgageofldaaGreat
open Go.RowKit
theorem of_any1 (s : List UInt8) (_ : s.length ≤ maxLen) (w : World) :
  Calls Tryz.prog 87 #[.string ⟨s.toArray⟩] w fun e w' => e = .returned (.pointer (some ⟨w.heap.size, 0, none⟩)) ∧ w' = w.alloc (.cells (rdCells ⟨0, s⟩).toArray 246) := by
 go_enter Tryz.func87, Tryz.ntmps87
 go_wp2_with fail
 go_ret
 exact ⟨rfl, rfl⟩
structure Off (L : List Nat) (n : Nat) (w w' : World) : Prop where
 os : w'.os = w.os
 tape : w'.tape = w.tape
 output : w'.output = w.output
 size : w.heap.size ≤ w'.heap.size
 block : ∀ k, k < n → k ∉ L → w'.heap[k]? = w.heap[k]?
theorem Off.refl (L : List Nat) (n : Nat) (w : World) : Off L n w w := ⟨rfl, rfl, rfl, Nat.le_refl _, fun _ _ _ => rfl⟩
theorem Off.trans {L : List Nat} {n : Nat} {a b c : World} (h : Off L n a b) (k : Off L n b c) : Off L n a c :=
 ⟨k.os.trans h.os, k.tape.trans h.tape, k.output.trans h.output, Nat.le_trans h.size k.size, fun i hi hg => (k.block i hi hg).trans (h.block i hi hg)⟩
theorem Off.mono {L : List Nat} {n m : Nat} {a b : World} (h : Off L n a b) (hm : m ≤ n) : Off L m a b := ⟨h.os, h.tape, h.output, h.size, fun k hk hg => h.block k (by omega) hg⟩
theorem But.off {g n : Nat} {a b : World} (h : But g n a b) {L : List Nat} (hg : g ∈ L) : Off L n a b := ⟨h.os, h.tape, h.output, h.size, fun k hk hl => h.block k hk (fun e => hl (e ▸ hg))⟩
theorem Only.off {g : Nat} {a b : World} (h : Only g a b) (n : Nat) {L : List Nat} (hg : g ∈ L) : Off L n a b := (h.but n).off hg
theorem Off.below {L : List Nat} {n : Nat} {a b : World} (h : Off L n a b) (hg : ∀ g ∈ L, n ≤ g) : Below n a b := ⟨h.os, h.tape, h.output, h.size, fun k hk => h.block k hk (fun hl => by have := hg k hl; omega)⟩
def PartAt (w : World) (g : Nat) (M : MacV) (P : Option Addr) : Prop := w.heap[g]? = some (.cells (macCells M P).toArray 36 (0, 0))
theorem treeAt_but {w w' : World} {g : Nat} {R : RdV} (hr : RdAt w g R) (ho : But g w.heap.size w w') : ∀ {T : Tr}, TreeAt w T → TreeAt w' T
 | .nil, _ => trivial
 | .node b _ _ _ _ _, ⟨h1, h2, h3⟩ => ⟨(ho.block b (Array.getElem?_eq_some_iff.1 h1).1 (by
   rintro rfl
   unfold NodeAt at h1
   have := hr.row
   rw [h1] at this
   simp at this)).trans h1, treeAt_but hr ho h2, treeAt_but hr ho h3⟩
theorem PartAt.cells {w : World} {g : Nat} {M : MacV} {P : Option Addr} (h : PartAt w g M P) : w.cell? ⟨g, 0, none⟩ = some (.int .u8 (M.all : Int)) ∧ w.cell? ⟨g, 1, none⟩ = some (.int .u8 (M.mem : Int)) ∧ w.cell? ⟨g, 14, none⟩ = some (.pointer P) :=
 ⟨cell_of_row _ _ _ _ _ _ h, cell_of_row _ _ _ _ _ _ h, cell_of_row _ _ _ _ _ _ h⟩
theorem PartAt.thawed {w : World} {g : Nat} {M : MacV} {P : Option Addr} (h : PartAt w g M P) (j : Nat) : w.frozen? ⟨g, j, none⟩ = false := by
 unfold PartAt at h
 simp [World.frozen?, h]
theorem PartAt.tabs {w : World} {g : Nat} {M : MacV} {P : Option Addr} (h : PartAt w g M P) : w.cell? ⟨g, 2, none⟩ = some (.int .u32 (M.tab.a.seq.toNat : Int)) ∧ w.cell? ⟨g, 3, none⟩ = some (.int .u8 (M.tab.a.code : Int)) ∧ w.cell? ⟨g, 4, none⟩ = some (.string M.tab.a.text) ∧ w.cell? ⟨g, 5, none⟩ = some (.int .u32 (M.tab.b.seq.toNat : Int)) ∧ w.cell? ⟨g, 6, none⟩ = some (.int .u8 (M.tab.b.code : Int)) ∧ w.cell? ⟨g, 7, none⟩ = some (.string M.tab.b.text) ∧ w.cell? ⟨g, 8, none⟩ = some (.int .u32 (M.tab.c.seq.toNat : Int)) ∧ w.cell? ⟨g, 9, none⟩ = some (.int .u8 (M.tab.c.code : Int)) ∧ w.cell? ⟨g, 10, none⟩ = some (.string M.tab.c.text) ∧ w.cell? ⟨g, 11, none⟩ = some (.int .u32 (M.tab.d.seq.toNat : Int)) ∧ w.cell? ⟨g, 12, none⟩ = some (.int .u8 (M.tab.d.code : Int)) ∧ w.cell? ⟨g, 13, none⟩ = some (.string M.tab.d.text) :=
 ⟨cell_of_row _ _ _ _ _ _ h, cell_of_row _ _ _ _ _ _ h, cell_of_row _ _ _ _ _ _ h, cell_of_row _ _ _ _ _ _ h, cell_of_row _ _ _ _ _ _ h, cell_of_row _ _ _ _ _ _ h, cell_of_row _ _ _ _ _ _ h, cell_of_row _ _ _ _ _ _ h, cell_of_row _ _ _ _ _ _ h, cell_of_row _ _ _ _ _ _ h, cell_of_row _ _ _ _ _ _ h, cell_of_row _ _ _ _ _ _ h⟩
set_option maxHeartbeats 4000000 in
theorem kvof_any (P : Option Addr) (w : World) : Calls Tryz.prog 116 #[.pointer P] w fun e w' => e = .returned (.agg #[.pointer P]) ∧ Below w.heap.size w w' := by
 have hb := (Below.refl w.heap.size w).alloc (Nat.le_refl _) (.cells #[.pointer P] 34)
 have h0 := heap_alloc_new w (.cells #[.pointer P] 34)
 go_enter Tryz.func116, Tryz.ntmps116
 go_wp2_with fail
 generalize w.alloc (.cells #[.pointer P] 34) = w1 at *
 have c0 : w1.cell? ⟨w.heap.size, 0, none⟩ = some (.pointer P) := cell_of_row _ _ _ _ _ _ h0
 refine bodyPost_ret (v := .agg #[.pointer P]) (by simp [results, Tryz.results116, go_sem, c0] <;> rfl) rfl ?_
 exact ⟨rfl, hb⟩
end Go.Proofs.YtbckjgageofldaaGreat
