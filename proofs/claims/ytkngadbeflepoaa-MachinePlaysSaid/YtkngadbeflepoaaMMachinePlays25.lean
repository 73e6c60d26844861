/- Numbers as bytes, plain; bits.Len64, width. No condition. -/
import Derived.Test.YtkngadbeflepoaaChecked
import Derived.WalkKit
import Derived.ProofKit
import Derived.Lib.Hide
import Derived.Below
import Derived.IntWalk
import Derived.Test.YtkngadbeflepoaaMMachinePlays23
import Derived.Shelf.Strconv.Itoa0
import Derived.Deep.DeepCutAuto
import Derived.StillTailTactics
import Derived.Test.YtkngadbeflepoaaMMachinePlays14
namespace Go.Proofs.Ytkngadbeflepoaa
open Go.RowKit
open Go.Shelf

/-- How many bytes a number fits in. -/
def wid (n : Nat) : Nat := if n = 0 then 0 else if n < 256 then 1 else if n < 65536 then 2 else if n < 16777216 then 3 else if n < 4294967296 then 4 else if n < 1099511627776 then 5 else if n < 281474976710656 then 6 else if n < 72057594037927936 then 7 else 8
/-- The lowest k bytes of a number, the greatest first. -/
def bigB : Nat → Nat → List UInt8
  | 0, _ => []
  | k + 1, n => UInt8.ofNat (n / 256 ^ k) :: bigB k n
/-- The bytes of a number. -/
def numL (n : Nat) : List UInt8 := if n < 248 then [UInt8.ofNat n] else UInt8.ofNat (247 + wid n) :: bigB (wid n) n
theorem bigB_len : ∀ k n, (bigB k n).length = k
  | 0, _ => rfl
  | k + 1, n => by simp [bigB, bigB_len k n]
theorem wid_le (n : Nat) : wid n ≤ 8 := by
  unfold wid
  repeat' split
  all_goals omega
theorem wid_pos {n : Nat} (h : n ≠ 0) : 1 ≤ wid n := by
  unfold wid
  rw [if_neg h]
  repeat' split
  all_goals omega
theorem numL_len (n : Nat) : (numL n).length ≤ 9 ∧ 1 ≤ (numL n).length := by
  unfold numL
  have := wid_le n
  split
  · simp
  · simp [bigB_len]; omega
theorem len_most (n : Nat) (hn : n < 2 ^ 64) : Lib.bitLen n ≤ 64 := Lib.bitLen_le n 64 (by omega) hn
theorem len_eq (n : Nat) (_ : n ≠ 0) (hn : n < 2 ^ 64) (k : Nat) (h : 2 ^ k ≤ n) (h2 : n < 2 ^ (k + 8)) (hk : k + 8 ≤ 64) : k < Lib.bitLen n ∧ Lib.bitLen n ≤ k + 8 := by
  refine ⟨?_, Lib.bitLen_le n (k + 8) hk h2⟩
  have e := Lib.bitLen_shift k n h hn
  have h3 : n / 2 ^ k ≠ 0 := by
    have : 0 < n / 2 ^ k := Nat.div_pos h (Nat.two_pow_pos k)
    omega
  have h4 := Lib.bitLen_half (n / 2 ^ k) h3 (Nat.lt_of_le_of_lt (Nat.div_le_self _ _) hn)
  omega
theorem len_wid (n : Nat) (hn : n < 18446744073709551616) : (Lib.bitLen n + 7) / 8 = wid n := by
  have h64 : n < 2 ^ 64 := hn
  unfold wid
  by_cases h0 : n = 0
  · subst h0; rw [if_pos rfl]; decide
  rw [if_neg h0]
  repeat' split
  · have := len_eq n h0 h64 0 (by omega) (by omega) (by omega); omega
  · have := len_eq n h0 h64 8 (by omega) (by omega) (by omega); omega
  · have := len_eq n h0 h64 16 (by omega) (by omega) (by omega); omega
  · have := len_eq n h0 h64 24 (by omega) (by omega) (by omega); omega
  · have := len_eq n h0 h64 32 (by omega) (by omega) (by omega); omega
  · have := len_eq n h0 h64 40 (by omega) (by omega) (by omega); omega
  · have := len_eq n h0 h64 48 (by omega) (by omega) (by omega); omega
  · have := len_eq n h0 h64 56 (by omega) (by omega) (by omega); omega
/-- The library's contract of bits.Len64, at this program. -/
def len64_ren : Go.Shelf.Ren := ⟨fun | 129 => 131 | n => n, fun | 3 => 3 | 4 => 4 | 5 => 5 | 9 => 9 | 46 => 179 | 53 => 108 | n => n, fun n => n⟩
theorem len64_lays : Lays.n129 Try.prog len64_ren :=
  { mixed := by kernel_rfl, f129 := by kernel_rfl
    t3 := by kernel_rfl, a3 := fun _ => by kernel_rfl, z3 := fun _ => by kernel_rfl, v3 := fun _ => by kernel_rfl
    t4 := by kernel_rfl, a4 := fun _ => by kernel_rfl, z4 := fun _ => by kernel_rfl, v4 := fun _ => by kernel_rfl
    t5 := by kernel_rfl, a5 := fun _ => by kernel_rfl, z5 := fun _ => by kernel_rfl, v5 := fun _ => by kernel_rfl
    t9 := by kernel_rfl, a9 := fun _ => by kernel_rfl, z9 := fun _ => by kernel_rfl, v9 := fun _ => by kernel_rfl
    t46 := by kernel_rfl, a46 := fun _ => by kernel_rfl, z46 := fun _ => by kernel_rfl, v46 := fun _ => by kernel_rfl
    t53 := by kernel_rfl, a53 := fun _ => by kernel_rfl, z53 := fun _ => by kernel_rfl, v53 := fun _ => by kernel_rfl
  }
theorem len64_any (n : Nat) (hn : n < 18446744073709551616) (w : World) : Calls Try.prog 131 #[.int .u64 (n : Int)] w fun e w' => e = .returned (.int .i64 (Lib.bitLen n : Int)) ∧ w = w' := by
  have h := Any.bits_Len64 len64_lays (n : Int) w (by omega) (by omega)
  rw [Int.toNat_natCast] at h
  exact h.mono fun e w' hh => ⟨hh.1, hh.2.symm⟩
theorem width_any (n : Nat) (hn : n < 18446744073709551616) (w : World) : Calls Try.prog 119 #[.int .u64 (n : Int)] w fun e w' => e = .returned (.int .i64 (wid n : Int)) ∧ w = w' := by
  have H := Lib.hid (len64_any n hn w)
  have hm := len_most n hn
  have hq := len_wid n hn
  rw [← hq]
  clear hq
  generalize Lib.bitLen n = L at *
  go_enter Try.func119, Try.ntmps119
  go_wp2_with ((with_reducible refine H.out.mono ?_); rintro e w' ⟨rfl, rfl⟩)
  go_ret
  refine ⟨congrArg Ending.returned (congrArg (Value.int IntKind.i64) ?_), rfl⟩
  try rw [IntKind.wrap_i64]
  omega
end Go.Proofs.Ytkngadbeflepoaa
/- wire.Num: the bytes of a number behind those of a slice. Condition: the slice's bytes are few. -/
namespace Go.Proofs.Ytkngadbeflepoaa
open Go.RowKit

theorem info8 : (Try.prog.info? 5).map (fun i => (i.zero, i.size, i.bytes)) = some (some (.int .u8 0), 1, 1) := by kernel_rfl
theorem info8s : (Try.prog.info? 5).map (·.size) = some 1 := by kernel_rfl
theorem u8_256 (n : Nat) : ((UInt8.ofNat n).toNat : Int) = (n : Int) % 256 := by simp
set_option maxRecDepth 100000 in
set_option maxHeartbeats 4000000 in
theorem num_any (v : Value) (l : List UInt8) (n : Nat) (hn : n < 18446744073709551616) (hl : l.length ≤ 1099511627776) (w : World) (h : ReadB w v l) :
    Calls Try.prog 70 #[v, .int .u64 (n : Int)] w fun e w' => ∃ v', e = .returned v' ∧ OwnB w' w.heap.size 5 v' (l ++ numL n) ∧ Below w.heap.size w w' := by
  obtain ⟨i0, hi0, hz0, hs0, hb0⟩ := info_parts info8
  obtain ⟨a, cap, rfl, hcap0, hread⟩ := h.out
  have Hr := Lib.hid hread; clear hread
  go_enter Try.func70, Try.ntmps70
  go_upto_region 2 with (refine wpList_make_lc _ rfl _ _ 60 rfl 5 i0 (.int .u8 0) Try.underlying60 hi0 hz0 .i64 .i64 _ _ l.length (l.length + 9) rfl rfl (by simp) (by first | omega | (rw [IntKind.wrap_i64]; omega)) (by omega) (by rw [hb0]; omega) (by unfold maxLen; omega) ?_)
  have hb1 := (Below.refl w.heap.size w).alloc (Nat.le_refl _) (.cells (madeCells #[Value.int .u8 0] (l.length + 9)) 5)
  have hr1 := (ReadB.below (w := w) (v := .slice a l.length cap) (l := l) ⟨a, cap, rfl, hcap0, Hr.out⟩ ((Below.refl w.heap.size w).alloc (Nat.le_refl _) (.cells (madeCells #[Value.int .u8 0] (l.length + 9)) 5))).out
  have hg1 : (w.alloc (.cells (madeCells #[Value.int .u8 0] (l.length + 9)) 5)).heap[w.heap.size]? = some (.cells (madeCells #[Value.int .u8 0] (l.length + 9)).toList.toArray 5 (0, 0)) := heap_alloc_new _ _
  generalize w.alloc (.cells (madeCells #[Value.int .u8 0] (l.length + 9)) 5) = w1 at *
  have hc1 : (madeCells #[Value.int .u8 0] (l.length + 9)).toList.length = l.length + 9 := by simp [size_madeCells]
  generalize (madeCells #[Value.int .u8 0] (l.length + 9)).toList = cur at *
  have Hb1 := Lib.hid hb1; clear hb1
  have Hg1 := Lib.hid hg1; clear hg1
  have Hr1 := Lib.hid hr1; clear hr1
  have Hc1 := Lib.hid hc1; clear hc1 Hr h
  obtain ⟨X, hX⟩ : ∃ X, bcells l = X := ⟨_, rfl⟩
  have HX := Lib.hid hX
  have hpos : 0 < X.length → (some ⟨w.heap.size, 0, none⟩ : Option Addr) = some ⟨w.heap.size, 0, none⟩ ∧ ∃ ad, a = some ad ∧ ∀ j u, X[j]? = some u → w1.cell? (ad.add j) = some u := by
    intro hp
    obtain ⟨a', cap', e, _, h2⟩ := Hr1.out
    cases e
    rw [← hX] at hp ⊢
    obtain ⟨b, o, e1, _, _⟩ := h2 0 _ (List.getElem?_eq_getElem hp)
    refine ⟨rfl, ⟨b, o, none⟩, e1, fun j u hj => ?_⟩
    obtain ⟨b', o', e2, _, e3⟩ := h2 j u hj
    rw [e1] at e2
    cases e2
    rw [Addr.add_lit]
    exact e3
  have Hpos := Lib.hid hpos; clear hpos
  have Hlen := Lib.hid (show X.length = Nat.min l.length l.length by rw [← hX, bcells_len]; exact (Nat.min_self _).symm)
  have Hfit := Lib.hid (show 0 + X.length ≤ cur.length by rw [← hX, bcells_len, Hc1.out]; omega)
  have Hone := Lib.hid (show ∀ u ∈ X, u.oneCell' = true by rw [← hX]; exact bcells_one l)
  clear hX Hr1
  go_upto_region 3 with (with_reducible refine wpList_copy_splice rfl (.tmp 14) (.tmp 15) 60 60 rfl 5 Try.underlying60 info8s _ _ _ _ _ _ rfl rfl w.heap.size 0 cur 5 Hg1.out X Hlen.out Hpos.out Hfit.out Hone.out w.heap.size w Hb1.out (Nat.le_refl _) ?_; intro w2 hg2 hb2; have Hb2 := Lib.hid hb2; clear hb2)
  have hown : OwnB w2 w.heap.size 5 (.slice (some ⟨w.heap.size, 0, none⟩) l.length (l.length + 9)) l := by
    have hg := hg2.out
    rw [← HX.out] at hg
    exact OwnB.splice hg (Nat.le_refl _) Hc1.out (by omega) (by unfold maxLen; omega)
  have Hown := Lib.hid hown; clear hown
  have Hlt := Lib.hid (show w.heap.size ≤ w2.heap.size from Hb2.out.size)
  clear hg2 Hg1 Hb1 Hpos Hlen Hfit Hone Hc1 HX
  by_cases h248 : n < 248
  · have h248' : (n : Int) < 248 := by omega
    have hnum : numL n = [UInt8.ofNat n] := by unfold numL; rw [if_pos h248]
    have Hnum := Lib.hid hnum; clear hnum
    have hmod : (n : Int) % 256 = (n : Int) := by omega
    have hnews : bcells [UInt8.ofNat n] = [.int .u8 (n : Int)] := by simp [bcells]; omega
    have Hnews := Lib.hid hnews; clear hnews
    go_wp2_with (at_builtin; refine wpList_append_fits _ rfl _ _ 60 rfl w.heap.size 5 i0 1 Try.underlying60 hi0 hs0 w.heap.size l.length (l.length + 9) (bcells l) rfl (World.ownsRow.alloc Hown.out _) ⟨w2.heap.size, 0, none⟩ 1 1 (bcells [UInt8.ofNat n]) rfl rfl (by rw [Hnews.out]; exact cells_one _ _ _) (bcells_one _) (by omega) ?_; intro w3 ho3 hg3; have Hg3 := Lib.hid hg3; clear hg3; have Ho3 := Lib.hid ho3; clear ho3)
    go_ret
    refine ⟨_, rfl, ?_, ?_⟩
    · rw [Hnum.out]
      exact OwnB.of Ho3.out rfl rfl
    · exact below_grown Hg3.out (Hb2.out.alloc Hlt.out _) (by simp; have := Hlt.out; omega) (fun k hk => by cases hk; exact Nat.le_refl _)
  · have h248' : ¬ (n : Int) < 248 := by omega
    have Hw := Lib.hid (fun y : World => width_any n hn y)
    have hw8 := wid_le n
    have hw1 := wid_pos (n := n) (by omega)
    have hnum : numL n = UInt8.ofNat (247 + wid n) :: bigB (wid n) n := by unfold numL; rw [if_neg h248]
    have Hnum := Lib.hid hnum; clear hnum
    obtain ⟨k, hk⟩ : ∃ k, wid n = k := ⟨_, rfl⟩
    rw [hk] at Hw Hnum hw8 hw1
    clear hk
    have hmod : (247 + (k : Int)) % 256 = 247 + (k : Int) := by omega
    have hnews : bcells [UInt8.ofNat (247 + k)] = [.int .u8 (247 + (k : Int))] := by simp [bcells]; omega
    have Hnews := Lib.hid hnews; clear hnews
    go_upto_region 7 with (first
      | ((with_reducible refine (Hw.out _).mono ?_); rintro e w' ⟨rfl, rfl⟩)
      | (at_builtin; refine wpList_append_fits _ rfl _ _ 60 rfl w.heap.size 5 i0 1 Try.underlying60 hi0 hs0 w.heap.size l.length (l.length + 9) (bcells l) rfl (World.ownsRow.alloc Hown.out _) ⟨w2.heap.size, 0, none⟩ 1 1 (bcells [UInt8.ofNat (247 + k)]) rfl rfl (by rw [Hnews.out]; exact cells_one _ _ _) (bcells_one _) (by omega) ?_; intro w3 ho3 hg3; have Hg3 := Lib.hid hg3; clear hg3; have Ho3 := Lib.hid ho3; clear ho3))
    have hb3 := below_grown Hg3.out (Hb2.out.alloc Hlt.out _) (by simp; have := Hlt.out; omega) (fun k hk => by cases hk; exact Nat.le_refl _)
    have ho3 : OwnB w3 w.heap.size 5 (.slice (some ⟨w.heap.size, 0, none⟩) (l.length + 1) (l.length + 9)) (l ++ [UInt8.ofNat (247 + k)]) := OwnB.of Ho3.out rfl rfl
    clear Ho3 Hg3 Hown Hb2 Hlt Hnews
    have Hb3 := Lib.hid hb3; clear hb3
    have Ho3 := Lib.hid ho3; clear ho3
    go_wp2_with fail
    go_loopw [5, 7] (fun s5 s7 wr => ∃ (j : Nat) (q : List UInt8), j ≤ k ∧ s7 = .int .i64 ((j : Int) - 1) ∧ s5 = .slice (some ⟨w.heap.size, 0, none⟩) q.length (l.length + 9) ∧ q.length + j = l.length + 1 + k ∧ OwnB wr w.heap.size 5 s5 q ∧ q ++ bigB j n = l ++ numL n ∧ Below w.heap.size w wr) (fun _ s7 _ => (intOf s7 + 1).toNat)
    case atStart => exact ⟨k, l ++ [UInt8.ofNat (247 + k)], Nat.le_refl _, rfl, by simp, by simp, Ho3.out, by rw [Hnum.out]; simp, Hb3.out⟩
    case round =>
      clear Ho3 Hb3
      obtain ⟨j, q, hj, rfl, rfl, hql, ho, hq, hb⟩ := hrel
      have Ho := Lib.hid ho; clear ho
      have Hq := Lib.hid hq; clear hq
      have Hb := Lib.hid hb; clear hb
      match j with
      | 0 =>
        go_wp2_with fail
        go_ret
        refine ⟨_, rfl, ?_, Hb.out⟩
        have e := Hq.out
        simp only [bigB, List.append_nil] at e
        rw [← e]
        exact Ho.out
      | i + 1 =>
        have hi : ((i + 1 : Nat) : Int) - 1 = (i : Int) := by omega
        rw [hi]
        clear hi
        have hi0' : (0 : Int) ≤ (i : Int) := by omega
        have hi7 : (i : Int) ≤ 7 := by omega
        have hnews : bcells [UInt8.ofNat (n / 256 ^ i)] = [.int .u8 ((n : Int) / 2 ^ (8 * i) % 256)] := by
          have e : (2 : Nat) ^ (8 * i) = 256 ^ i := by rw [Nat.pow_mul]
          simp [bcells, ← e]
        have Hnews := Lib.hid hnews; clear hnews
        have Hlt := Lib.hid (show w.heap.size ≤ wr.heap.size from Hb.out.size)
        go_wp2_with (at_builtin; refine wpList_append_fits _ rfl _ _ 60 rfl w.heap.size 5 i0 1 Try.underlying60 hi0 hs0 w.heap.size q.length (l.length + 9) (bcells q) rfl (World.ownsRow.alloc Ho.out _) ⟨wr.heap.size, 0, none⟩ 1 1 (bcells [UInt8.ofNat (n / 256 ^ i)]) rfl rfl (by rw [Hnews.out]; exact cells_one _ _ _) (bcells_one _) (by omega) ?_; intro w4 ho4 hg4; have Hg4 := Lib.hid hg4; clear hg4; have Ho4 := Lib.hid ho4; clear ho4)
        go_roundw
        case rel =>
          refine ⟨i, q ++ [UInt8.ofNat (n / 256 ^ i)], by omega, rfl, by simp, by rw [List.length_append]; show q.length + 1 + i = _; omega, OwnB.of Ho4.out rfl rfl, ?_, below_grown Hg4.out (Hb.out.alloc Hlt.out _) (by simp; have := Hlt.out; omega) (fun k hk => by cases hk; exact Nat.le_refl _)⟩
          rw [← Hq.out]
          simp [bigB]
        case measure => simp [intOf]
end Go.Proofs.Ytkngadbeflepoaa
/- wire.Str: the bytes of a text behind those of a slice. Condition: they are few. -/
namespace Go.Proofs.Ytkngadbeflepoaa
open Go.RowKit

theorem str_len (s : ByteArray) : s.data.toList.length = s.size := by rw [Array.length_toList]; rfl
/-- The bytes of a text. -/
def strL (s : ByteArray) : List UInt8 := numL s.size ++ s.data.toList
theorem strL_len (s : ByteArray) : (strL s).length ≤ s.size + 9 := by
  have h := (numL_len s.size).1
  have e := str_len s
  unfold strL
  rw [List.length_append, e]
  omega
set_option maxRecDepth 100000 in
set_option maxHeartbeats 4000000 in
theorem str_any (v : Value) (l : List UInt8) (s : ByteArray) (hl : l.length + s.size ≤ 1099511627776) (w : World) (h : ReadB w v l) :
    Calls Try.prog 71 #[v, .string s] w fun e w' => ∃ v', e = .returned v' ∧ OwnB w' w.heap.size 5 v' (l ++ strL s) ∧ Below w.heap.size w w' := by
  obtain ⟨i0, hi0, hz0, hs0, hb0⟩ := info_parts info8
  have Hn := Lib.hid (num_any v l s.size (by omega) (by omega) w h); clear h
  have hn9 := (numL_len s.size).1
  have hlen := str_len s
  go_enter Try.func71, Try.ntmps71
  go_wp2_with (first
    | ((with_reducible refine Hn.out.mono ?_); rintro e w1 ⟨v1, rfl, ho1, hb1⟩; have Ho1 := Lib.hid ho1; clear ho1; have Hb1 := Lib.hid hb1; clear hb1)
    | (at_builtin; refine Lib.wpList_append_own_string _ rfl _ _ 60 9 rfl w.heap.size 5 i0 Try.underlying60 Try.underlying9 hi0 hz0 hs0 hb0 _ _ _ rfl Ho1.out s rfl (by rw [List.length_append]; unfold maxLen; omega) (by rw [List.length_append]; omega) Hb1.out.size ?_; intro v2 w2 ho2 hg2 hn2; have Ho2 := Lib.hid ho2; clear ho2; have Hg2 := Lib.hid hg2; clear hg2 hn2))
  go_ret
  refine ⟨_, rfl, ?_, ?_⟩
  · unfold strL
    rw [← List.append_assoc]
    exact OwnB.of Ho2.out (by rw [hlen]) (by rw [bcells_str])
  · exact below_grown Hg2.out Hb1.out Hb1.out.size (fun k hk => (World.ownsRow.lt Ho1.out k hk).1)
end Go.Proofs.Ytkngadbeflepoaa
/- The document's bytes of numbers and texts (ref01.Num, Str). No condition but that a text is no longer than any can be. -/
namespace Go.Proofs.Ytkngadbeflepoaa
open Go.RowKit

theorem bigB_over (n : Nat) : ∀ k, n / 256 ^ k = 0 → ∀ j, 1 ≤ j → n / 256 ^ (j - 1) ≠ 0 → j ≤ k := by
  intro k hk j hj hn
  by_cases h : j ≤ k
  · exact h
  · exfalso
    apply hn
    have h1 : 256 ^ k ≤ 256 ^ (j - 1) := Nat.pow_le_pow_right (by omega) (by omega)
    have h2 : n < 256 ^ k := by
      have := (Nat.div_eq_zero_iff.1 hk)
      rcases this with h3 | h3
      · have := Nat.pow_pos (n := k) (show 0 < 256 by omega); omega
      · exact h3
    exact Nat.div_eq_of_lt (by omega)
theorem wid_low {n : Nat} (hn : n ≠ 0) (h64 : n < 18446744073709551616) : n / 256 ^ (wid n) = 0 ∧ n / 256 ^ (wid n - 1) ≠ 0 := by
  unfold wid
  rw [if_neg hn]
  repeat' split
  all_goals (simp only [Nat.reducePow, Nat.reduceSub]; omega)
set_option maxRecDepth 100000 in
set_option maxHeartbeats 4000000 in
theorem rnum_any (n : Nat) (hn : n < 18446744073709551616) (w : World) :
    Calls Try.prog 73 #[.int .u64 (n : Int)] w fun e w' => e = .returned (.string ⟨(numL n).toArray⟩) ∧ Below w.heap.size w w' := by
  obtain ⟨i0, hi0, hz0, hs0, hb0⟩ := info_parts info8
  by_cases h248 : n < 248
  · have h248' : (n : Int) < 248 := by omega
    have hmod : (n : Int) % 256 = (n : Int) := by omega
    have hnum : numL n = [UInt8.ofNat n] := by unfold numL; rw [if_pos h248]
    have hc := (ReadB.one w (UInt8.ofNat n) 5).conv Try.underlying60 Try.underlying5 Try.underlying9
    rw [show ((UInt8.ofNat n).toNat : Int) = (n : Int) by simp; omega] at hc
    rw [hnum]
    have Hb := Lib.hid ((Below.refl w.heap.size w).alloc (Nat.le_refl _) (.cells #[.int .u8 (n : Int)] 5))
    go_enter Try.func73, Try.ntmps73
    go_wp2_with fail
    go_ret
    exact ⟨rfl, Hb.out⟩
  · have h248' : ¬ (n : Int) < 248 := by omega
    go_enter Try.func73, Try.ntmps73
    go_wp2_with fail
    go_loopw [0, 3] (fun s0 s3 wr => ∃ j : Nat, j ≤ wid n ∧ s0 = .int .u64 ((n / 256 ^ j : Nat) : Int) ∧ OwnB wr w.heap.size 5 s3 (bigB j n) ∧ Below w.heap.size w wr) (fun s0 _ _ => (intOf s0).toNat)
    case atStart => exact ⟨0, by omega, by simp, ⟨rfl, .inl ⟨rfl, rfl⟩⟩, Below.refl _ _⟩
    case round =>
      obtain ⟨j, hj, rfl, ho, hb⟩ := hrel
      have Ho := Lib.hid ho; clear ho
      have Hb := Lib.hid hb; clear hb
      have Hn1 := Lib.hid (show bigB (j + 1) n = [UInt8.ofNat (n / 256 ^ j)] ++ bigB j n from rfl)
      have hdiv : n / 256 ^ (j + 1) = n / 256 ^ j / 256 := by rw [Nat.pow_succ, Nat.div_div_eq_div_mul]
      have Hdiv := Lib.hid hdiv; clear hdiv
      have Hw := Lib.hid (wid_low (n := n) (by omega) hn)
      have hw8 := wid_le n
      have hlen := bigB_len j n
      by_cases hz : n / 256 ^ j = 0
      · have hjw : j = wid n := by
          rcases Nat.lt_or_ge j (wid n) with h | h
          · exfalso
            apply Hw.out.2
            have h1 : 256 ^ j ≤ 256 ^ (wid n - 1) := Nat.pow_le_pow_right (by omega) (by omega)
            have h2 : n < 256 ^ j := by
              rcases Nat.div_eq_zero_iff.1 hz with h3 | h3
              · have := Nat.pow_pos (n := j) (show 0 < 256 by omega); omega
              · exact h3
            exact Nat.div_eq_of_lt (by omega)
          · omega
        have hnum : numL n = [UInt8.ofNat (247 + j)] ++ bigB j n := by unfold numL; rw [if_neg h248, ← hjw]; rfl
        have Hnum := Lib.hid hnum; clear hnum
        rw [hz]
        have hmod : (247 + (j : Int)) % 256 = 247 + (j : Int) := by omega
        have hob := OwnB.one wr (UInt8.ofNat (247 + j)) 5
        have hb8 : ((UInt8.ofNat (247 + j)).toNat : Int) = 247 + (j : Int) := by simp; omega
        rw [hb8] at hob
        have Hob := Lib.hid hob; clear hob
        obtain ⟨a, cap, rfl, _, _⟩ := Ho.out.read.out
        rw [hlen]
        have Hrd := Lib.hid (show ReadB (wr.alloc (.cells #[.int .u8 (247 + (j : Int))] 5)) (.slice a j cap) (bigB j n) by have h := Ho.out.read.below ((Below.refl wr.heap.size wr).alloc (Nat.le_refl _) (.cells #[.int .u8 (247 + (j : Int))] 5)); rwa [hlen] at h)
        have Hlt := Lib.hid (show w.heap.size ≤ wr.heap.size from Hb.out.size)
        clear hjw hw8
        go_wp2_with (at_builtin; refine wpList_append_read rfl _ _ 60 rfl wr.heap.size 5 i0 (.int .u8 0) Try.underlying60 hi0 hz0 hs0 hb0 rfl _ _ _ rfl Hob.out _ _ rfl Hrd.out (by rw [hlen]; simp; omega) (by simp) ?_; intro v4 w4 ho4 hg4; have Hg4 := Lib.hid hg4; clear hg4; have ho5 := OwnB.of ho4 rfl rfl; rw [← Hnum.out] at ho5; have hcv := ho5.read.conv Try.underlying60 Try.underlying5 Try.underlying9; clear ho4 ho5)
        go_ret
        exact ⟨rfl, below_grown Hg4.out (Hb.out.alloc Hlt.out _) (by simp; have := Hlt.out; omega) (fun k hk => by cases hk; exact Hlt.out)⟩
      · have hj1 : j + 1 ≤ wid n := bigB_over n (wid n) Hw.out.1 (j + 1) (by omega) (by simpa using hz)
        obtain ⟨m, hm⟩ : ∃ m, n / 256 ^ j = m := ⟨_, rfl⟩
        rw [hm] at hz Hdiv Hn1 ⊢
        have hm64 : m < 18446744073709551616 := by rw [← hm]; exact Nat.lt_of_le_of_lt (Nat.div_le_self _ _) hn
        have Hm := Lib.hid hm; clear hm
        have hz' : (0 : Int) < (m : Int) := by omega
        have hob := OwnB.one wr (UInt8.ofNat m) 5
        have hb8 : ((UInt8.ofNat m).toNat : Int) = (m : Int) % 256 := by simp
        rw [hb8] at hob
        have Hob := Lib.hid hob; clear hob hb8
        have Hrd := Lib.hid (Ho.out.read.below ((Below.refl wr.heap.size wr).alloc (Nat.le_refl _) (.cells #[.int .u8 ((m : Int) % 256)] 5)))
        have Hlt := Lib.hid (show w.heap.size ≤ wr.heap.size from Hb.out.size)
        go_wp2_with (at_builtin; refine wpList_append_read rfl _ _ 60 rfl wr.heap.size 5 i0 (.int .u8 0) Try.underlying60 hi0 hz0 hs0 hb0 rfl _ _ _ rfl Hob.out _ _ rfl Hrd.out (by rw [hlen]; simp; omega) (by simp) ?_; intro v4 w4 ho4 hg4; have Hg4 := Lib.hid hg4; clear hg4; have Ho4 := Lib.hid ho4; clear ho4)
        go_roundw
        case rel =>
          refine ⟨j + 1, hj1, by rw [Hdiv.out]; rfl, ?_, below_grown Hg4.out (Hb.out.alloc Hlt.out _) (by simp; have := Hlt.out; omega) (fun k hk => by cases hk; exact Hlt.out)⟩
          rw [Hn1.out]
          exact (OwnB.of Ho4.out rfl rfl).mono Hlt.out
        case measure => simp [intOf]; omega
theorem str_app (l : List UInt8) (s : ByteArray) : (⟨l.toArray⟩ : ByteArray) ++ s = ⟨(l ++ s.data.toList).toArray⟩ := by
  apply ByteArray.ext
  rw [ByteArray.data_append]
  apply Array.ext'
  simp
set_option maxRecDepth 100000 in
theorem rstr_any (s : ByteArray) (hs : s.size ≤ 1099511627776) (w : World) :
    Calls Try.prog 74 #[.string s] w fun e w' => e = .returned (.string ⟨(strL s).toArray⟩) ∧ Below w.heap.size w w' := by
  have hn := rnum_any s.size (by omega) w
  have h9 : (⟨(numL s.size).toArray⟩ : ByteArray).size ≤ 9 := by
    show (numL s.size).toArray.size ≤ 9
    rw [List.size_toArray]
    exact (numL_len s.size).1
  obtain ⟨X, hX⟩ : ∃ X : ByteArray, (⟨(numL s.size).toArray⟩ : ByteArray) = X := ⟨_, rfl⟩
  rw [hX] at hn h9
  have HX := Lib.hid hX; clear hX
  have Hn := Lib.hid hn; clear hn
  go_enter Try.func74, Try.ntmps74
  go_wp2_with ((with_reducible refine Hn.out.mono ?_); rintro e w1 ⟨rfl, hb⟩; have Hb := Lib.hid hb; clear hb)
  go_ret
  refine ⟨?_, Hb.out⟩
  rw [← HX.out, str_app]
  rfl
end Go.Proofs.Ytkngadbeflepoaa
