/- wire.Num: the bytes of a number behind those of a slice. Condition: the slice's bytes are few. -/
import Derived.Test.YtbckjgageofldaaGreatZLearnNil22
import Derived.Test.YtbckjgageofldaaGreatZLearnNil10
import Derived.Test.YtbckjgageofldaaGreatZLearnNil13
namespace Go.Proofs.YtbckjgageofldaaGreat
open Go.RowKit
theorem info8 : (Tryz.prog.info? 5).map (fun i => (i.zero, i.size, i.bytes)) = some (some (.int .u8 0), 1, 1) := by kernel_rfl
theorem info8s : (Tryz.prog.info? 5).map (·.size) = some 1 := by kernel_rfl
set_option maxRecDepth 100000 in
set_option maxHeartbeats 4000000 in
theorem num_any (v : Value) (l : List UInt8) (n : Nat) (hn : n < 18446744073709551616) (hl : l.length ≤ 1099511627776) (w : World) (h : ReadB w v l) :
  Calls Tryz.prog 52 #[v, .int .u64 (n : Int)] w fun e w' => ∃ v', e = .returned v' ∧ OwnB w' w.heap.size 5 v' (l ++ numL n) ∧ Below w.heap.size w w' := by
 obtain ⟨i0, hi0, hz0, hs0, hb0⟩ := info_parts info8
 obtain ⟨a, cap, rfl, hcap0, hread⟩ := h.out
 have Hr := Lib.hid hread; clear hread
 go_enter Tryz.func52, Tryz.ntmps52
 go_upto_region 2 with (refine wpList_make_lc _ rfl _ _ 44 rfl 5 i0 (.int .u8 0) Tryz.underlying44 hi0 hz0 .i64 .i64 _ _ l.length (l.length + 9) rfl rfl (by simp) (by first | omega | (rw [IntKind.wrap_i64]; omega)) (by omega) (by rw [hb0]; omega) (by unfold maxLen; omega) ?_)
 have hb1 := (Below.refl w.heap.size w).alloc (Nat.le_refl _) (.cells (madeCells #[Value.int .u8 0] (l.length + 9)) 5)
 have hr1 := (ReadB.below (w := w) (v := .slice a l.length cap) (l := l) ⟨a, cap, rfl, hcap0, Hr.out⟩ ((Below.refl w.heap.size w).alloc (Nat.le_refl _) (.cells (madeCells #[Value.int .u8 0] (l.length + 9)) 5))).out
 have hg1 : (w.alloc (.cells (madeCells #[Value.int .u8 0] (l.length + 9)) 5)).heap[w.heap.size]? = some (.cells (madeCells #[Value.int .u8 0] (l.length + 9)).toList.toArray 5 (0, 0)) := heap_alloc_new _ _
 generalize w.alloc (.cells (madeCells #[Value.int .u8 0] (l.length + 9)) 5) = w1 at *
 have hc1 : (madeCells #[Value.int .u8 0] (l.length + 9)).toList.length = l.length + 9 := by simp [size_madeCells]
 generalize (madeCells #[Value.int .u8 0] (l.length + 9)).toList = cur at *
 have Hb1 := Lib.hid hb1; clear hb1
 have Hg1 := Lib.hid hg1; clear hg1
 have Hr1 := Lib.hid hr1; clear hr1
 have Hc1 := Lib.hid hc1; clear hc1 Hr h
 obtain ⟨X, hX⟩ : ∃ X, bcells l = X := ⟨_, rfl⟩
 have HX := Lib.hid hX
 have hpos : 0 < X.length → (some ⟨w.heap.size, 0, none⟩ : Option Addr) = some ⟨w.heap.size, 0, none⟩ ∧ ∃ ad, a = some ad ∧ ∀ j u, X[j]? = some u → w1.cell? (ad.add j) = some u := by
  intro hp
  obtain ⟨a', cap', e, _, h2⟩ := Hr1.out
  cases e
  rw [← hX] at hp ⊢
  obtain ⟨b, o, e1, _, _⟩ := h2 0 _ (List.getElem?_eq_getElem hp)
  refine ⟨rfl, ⟨b, o, none⟩, e1, fun j u hj => ?_⟩
  obtain ⟨b', o', e2, _, e3⟩ := h2 j u hj
  rw [e1] at e2
  cases e2
  rw [Addr.add_lit]
  exact e3
 have Hpos := Lib.hid hpos; clear hpos
 have Hlen := Lib.hid (show X.length = Nat.min l.length l.length by rw [← hX, bcells_len]; exact (Nat.min_self _).symm)
 have Hfit := Lib.hid (show 0 + X.length ≤ cur.length by rw [← hX, bcells_len, Hc1.out]; omega)
 have Hone := Lib.hid (show ∀ u ∈ X, u.oneCell' = true by rw [← hX]; exact bcells_one l)
 clear hX Hr1
 go_upto_region 3 with (with_reducible refine wpList_copy_splice rfl (.tmp 14) (.tmp 15) 44 44 rfl 5 Tryz.underlying44 info8s _ _ _ _ _ _ rfl rfl w.heap.size 0 cur 5 Hg1.out X Hlen.out Hpos.out Hfit.out Hone.out w.heap.size w Hb1.out (Nat.le_refl _) ?_; intro w2 hg2 hb2; have Hb2 := Lib.hid hb2; clear hb2)
 have hown : OwnB w2 w.heap.size 5 (.slice (some ⟨w.heap.size, 0, none⟩) l.length (l.length + 9)) l := by
  have hg := hg2.out
  rw [← HX.out] at hg
  exact OwnB.splice hg (Nat.le_refl _) Hc1.out (by omega) (by unfold maxLen; omega)
 have Hown := Lib.hid hown; clear hown
 have Hlt := Lib.hid (show w.heap.size ≤ w2.heap.size from Hb2.out.size)
 clear hg2 Hg1 Hb1 Hpos Hlen Hfit Hone Hc1 HX
 by_cases h248 : n < 248
 ·
  have h248' : (n : Int) < 248 := by omega
  have hnum : numL n = [UInt8.ofNat n] := by unfold numL; rw [if_pos h248]
  have Hnum := Lib.hid hnum; clear hnum
  have hmod : (n : Int) % 256 = (n : Int) := by omega
  have hnews : bcells [UInt8.ofNat n] = [.int .u8 (n : Int)] := by simp [bcells]; omega
  have Hnews := Lib.hid hnews; clear hnews
  go_wp2_with (at_builtin; refine wpList_append_fits _ rfl _ _ 44 rfl w.heap.size 5 i0 1 Tryz.underlying44 hi0 hs0 w.heap.size l.length (l.length + 9) (bcells l) rfl (World.ownsRow.alloc Hown.out _) ⟨w2.heap.size, 0, none⟩ 1 1 (bcells [UInt8.ofNat n]) rfl rfl (by rw [Hnews.out]; exact cells_one _ _ _) (bcells_one _) (by omega) ?_; intro w3 ho3 hg3; have Hg3 := Lib.hid hg3; clear hg3; have Ho3 := Lib.hid ho3; clear ho3)
  go_ret
  refine ⟨_, rfl, ?_, ?_⟩
  ·
   rw [Hnum.out]
   exact OwnB.of Ho3.out rfl rfl
  ·
   exact below_grown Hg3.out (Hb2.out.alloc Hlt.out _) (by simp; have := Hlt.out; omega) (fun k hk => by cases hk; exact Nat.le_refl _)
 ·
  have h248' : ¬ (n : Int) < 248 := by omega
  have Hw := Lib.hid (fun y : World => width_any n hn y)
  have hw8 := wid_le n
  have hw1 := wid_pos (n := n) (by omega)
  have hnum : numL n = UInt8.ofNat (247 + wid n) :: bigB (wid n) n := by unfold numL; rw [if_neg h248]
  have Hnum := Lib.hid hnum; clear hnum
  obtain ⟨k, hk⟩ : ∃ k, wid n = k := ⟨_, rfl⟩
  rw [hk] at Hw Hnum hw8 hw1
  clear hk
  have hmod : (247 + (k : Int)) % 256 = 247 + (k : Int) := by omega
  have hnews : bcells [UInt8.ofNat (247 + k)] = [.int .u8 (247 + (k : Int))] := by simp [bcells]; omega
  have Hnews := Lib.hid hnews; clear hnews
  go_upto_region 7 with (first
   | ((with_reducible refine (Hw.out _).mono ?_); rintro e w' ⟨rfl, rfl⟩)
   | (at_builtin; refine wpList_append_fits _ rfl _ _ 44 rfl w.heap.size 5 i0 1 Tryz.underlying44 hi0 hs0 w.heap.size l.length (l.length + 9) (bcells l) rfl (World.ownsRow.alloc Hown.out _) ⟨w2.heap.size, 0, none⟩ 1 1 (bcells [UInt8.ofNat (247 + k)]) rfl rfl (by rw [Hnews.out]; exact cells_one _ _ _) (bcells_one _) (by omega) ?_; intro w3 ho3 hg3; have Hg3 := Lib.hid hg3; clear hg3; have Ho3 := Lib.hid ho3; clear ho3))
  have hb3 := below_grown Hg3.out (Hb2.out.alloc Hlt.out _) (by simp; have := Hlt.out; omega) (fun k hk => by cases hk; exact Nat.le_refl _)
  have ho3 : OwnB w3 w.heap.size 5 (.slice (some ⟨w.heap.size, 0, none⟩) (l.length + 1) (l.length + 9)) (l ++ [UInt8.ofNat (247 + k)]) := OwnB.of Ho3.out rfl rfl
  clear Ho3 Hg3 Hown Hb2 Hlt Hnews
  have Hb3 := Lib.hid hb3; clear hb3
  have Ho3 := Lib.hid ho3; clear ho3
  go_wp2_with fail
  go_loopw [5, 7] (fun s5 s7 wr => ∃ (j : Nat) (q : List UInt8), j ≤ k ∧ s7 = .int .i64 ((j : Int) - 1) ∧ s5 = .slice (some ⟨w.heap.size, 0, none⟩) q.length (l.length + 9) ∧ q.length + j = l.length + 1 + k ∧ OwnB wr w.heap.size 5 s5 q ∧ q ++ bigB j n = l ++ numL n ∧ Below w.heap.size w wr) (fun _ s7 _ => (intOf s7 + 1).toNat)
  case atStart => exact ⟨k, l ++ [UInt8.ofNat (247 + k)], Nat.le_refl _, rfl, by simp, by simp, Ho3.out, by rw [Hnum.out]; simp, Hb3.out⟩
  case round =>
   clear Ho3 Hb3
   obtain ⟨j, q, hj, rfl, rfl, hql, ho, hq, hb⟩ := hrel
   have Ho := Lib.hid ho; clear ho
   have Hq := Lib.hid hq; clear hq
   have Hb := Lib.hid hb; clear hb
   match j with
   | 0 =>
    go_wp2_with fail
    go_ret
    refine ⟨_, rfl, ?_, Hb.out⟩
    have e := Hq.out
    simp only [bigB, List.append_nil] at e
    rw [← e]
    exact Ho.out
   | i + 1 =>
    have hi : ((i + 1 : Nat) : Int) - 1 = (i : Int) := by omega
    rw [hi]
    clear hi
    have hi0' : (0 : Int) ≤ (i : Int) := by omega
    have hi7 : (i : Int) ≤ 7 := by omega
    have hnews : bcells [UInt8.ofNat (n / 256 ^ i)] = [.int .u8 ((n : Int) / 2 ^ (8 * i) % 256)] := by
     have e : (2 : Nat) ^ (8 * i) = 256 ^ i := by rw [Nat.pow_mul]
     simp [bcells, ← e]
    have Hnews := Lib.hid hnews; clear hnews
    have Hlt := Lib.hid (show w.heap.size ≤ wr.heap.size from Hb.out.size)
    go_wp2_with (at_builtin; refine wpList_append_fits _ rfl _ _ 44 rfl w.heap.size 5 i0 1 Tryz.underlying44 hi0 hs0 w.heap.size q.length (l.length + 9) (bcells q) rfl (World.ownsRow.alloc Ho.out _) ⟨wr.heap.size, 0, none⟩ 1 1 (bcells [UInt8.ofNat (n / 256 ^ i)]) rfl rfl (by rw [Hnews.out]; exact cells_one _ _ _) (bcells_one _) (by omega) ?_; intro w4 ho4 hg4; have Hg4 := Lib.hid hg4; clear hg4; have Ho4 := Lib.hid ho4; clear ho4)
    go_roundw
    case rel =>
     refine ⟨i, q ++ [UInt8.ofNat (n / 256 ^ i)], by omega, rfl, by simp, by rw [List.length_append]; show q.length + 1 + i = _; omega, OwnB.of Ho4.out rfl rfl, ?_, below_grown Hg4.out (Hb.out.alloc Hlt.out _) (by simp; have := Hlt.out; omega) (fun k hk => by cases hk; exact Nat.le_refl _)⟩
     rw [← Hq.out]
     simp [bigB]
    case measure => simp [intOf]
end Go.Proofs.YtbckjgageofldaaGreat
namespace Go.Proofs.YtbckjgageofldaaGreat
open Go.RowKit
theorem str_len (s : ByteArray) : s.data.toList.length = s.size := by rw [Array.length_toList]; rfl
def strL (s : ByteArray) : List UInt8 := numL s.size ++ s.data.toList
theorem strL_len (s : ByteArray) : (strL s).length ≤ s.size + 9 := by
 have h := (numL_len s.size).1
 have e := str_len s
 unfold strL
 rw [List.length_append, e]
 omega
set_option maxRecDepth 100000 in
set_option maxHeartbeats 4000000 in
theorem str_any (v : Value) (l : List UInt8) (s : ByteArray) (hl : l.length + s.size ≤ 1099511627776) (w : World) (h : ReadB w v l) :
  Calls Tryz.prog 56 #[v, .string s] w fun e w' => ∃ v', e = .returned v' ∧ OwnB w' w.heap.size 5 v' (l ++ strL s) ∧ Below w.heap.size w w' := by
 obtain ⟨i0, hi0, hz0, hs0, hb0⟩ := info_parts info8
 have Hn := Lib.hid (num_any v l s.size (by omega) (by omega) w h); clear h
 have hn9 := (numL_len s.size).1
 have hlen := str_len s
 go_enter Tryz.func56, Tryz.ntmps56
 go_wp2_with (first
  | ((with_reducible refine Hn.out.mono ?_); rintro e w1 ⟨v1, rfl, ho1, hb1⟩; have Ho1 := Lib.hid ho1; clear ho1; have Hb1 := Lib.hid hb1; clear hb1)
  | (at_builtin; refine Lib.wpList_append_own_string _ rfl _ _ 44 9 rfl w.heap.size 5 i0 Tryz.underlying44 Tryz.underlying9 hi0 hz0 hs0 hb0 _ _ _ rfl Ho1.out s rfl (by rw [List.length_append]; unfold maxLen; omega) (by rw [List.length_append]; omega) Hb1.out.size ?_; intro v2 w2 ho2 hg2 hn2; have Ho2 := Lib.hid ho2; clear ho2; have Hg2 := Lib.hid hg2; clear hg2 hn2))
 go_ret
 refine ⟨_, rfl, ?_, ?_⟩
 ·
  unfold strL
  rw [← List.append_assoc]
  exact OwnB.of Ho2.out (by rw [hlen]) (by rw [bcells_str])
 ·
  exact below_grown Hg2.out Hb1.out Hb1.out.size (fun k hk => (World.ownsRow.lt Ho1.out k hk).1)
end Go.Proofs.YtbckjgageofldaaGreat
namespace Go.Proofs.YtbckjgageofldaaGreat
open Go.RowKit
structure RdV where
 e : Nat
 s : List UInt8
def RdV.fail (R : RdV) (c : Nat) : RdV := if R.e = 0 then ⟨c, R.s⟩ else R
def RdV.take (R : RdV) (n : Nat) : List UInt8 × Bool × RdV := if R.e = 0 then (if n ≤ R.s.length then (R.s.take n, true, ⟨0, R.s.drop n⟩) else ([], false, ⟨3, R.s⟩)) else ([], false, R)
def RdV.byte (R : RdV) : UInt8 × RdV := ((R.take 1).1.headD 0, (R.take 1).2.2)
def bigN (l : List UInt8) : Nat := l.foldl (fun n b => n * 256 + b.toNat) 0
def RdV.wide (R : RdV) (k : Nat) : Nat × RdV :=
 if (R.take k).2.1 = true then (if bigN (R.take k).1 < 248 ∨ wid (bigN (R.take k).1) ≠ k then (0, (R.take k).2.2.fail 4) else (bigN (R.take k).1, (R.take k).2.2)) else (0, (R.take k).2.2)
def RdV.num (R : RdV) : Nat × RdV := if R.byte.1.toNat < 248 then (R.byte.1.toNat, R.byte.2) else R.byte.2.wide (R.byte.1.toNat - 247)
def RdV.below (R : RdV) (n : Nat) : Nat × RdV := if R.num.2.e = 0 then (if R.num.1 < n then R.num else (0, R.num.2.fail 4)) else (0, R.num.2)
def RdV.str (R : RdV) (most : Nat) : List UInt8 × RdV := (((R.below (most + 1)).2.take (R.below (most + 1)).1).1, ((R.below (most + 1)).2.take (R.below (most + 1)).1).2.2)
theorem bigN_snoc (l : List UInt8) (b : UInt8) : bigN (l ++ [b]) = bigN l * 256 + b.toNat := by
 unfold bigN
 rw [List.foldl_append]
 rfl
theorem bigN_from : ∀ (l : List UInt8) (n : Nat), l.foldl (fun n b => n * 256 + b.toNat) n = n * 256 ^ l.length + bigN l
 | [], n => by simp [bigN]
 | b :: r, n => by
  have h1 := bigN_from r (n * 256 + b.toNat)
  have h2 := bigN_from r (0 * 256 + b.toNat)
  unfold bigN at h1 h2 ⊢
  simp only [List.foldl_cons, List.length_cons] at h1 h2 ⊢
  rw [h1, h2, Nat.pow_succ]
  simp only [Nat.add_mul, Nat.zero_mul, Nat.zero_add]
  have : n * 256 * 256 ^ r.length = n * (256 ^ r.length * 256) := by rw [Nat.mul_assoc, Nat.mul_comm 256]
  omega
theorem bigN_cons (b : UInt8) (r : List UInt8) : bigN (b :: r) = b.toNat * 256 ^ r.length + bigN r := by
 have h := bigN_from r (0 * 256 + b.toNat)
 show r.foldl (fun n b => n * 256 + b.toNat) (0 * 256 + b.toNat) = _
 rw [h]
 simp
theorem bigN_lt : ∀ (l : List UInt8), bigN l < 256 ^ l.length
 | [] => by simp [bigN]
 | b :: r => by
  have h := bigN_lt r
  have hb := b.toNat_lt
  rw [bigN_cons, List.length_cons, Nat.pow_succ]
  have : b.toNat * 256 ^ r.length + 256 ^ r.length ≤ 256 * 256 ^ r.length := by
   have := Nat.mul_le_mul_right (256 ^ r.length) (show b.toNat + 1 ≤ 256 by omega)
   rw [Nat.add_mul, Nat.one_mul] at this
   exact this
  rw [Nat.mul_comm 256] at this
  omega
theorem bigB_mod : ∀ (k n m : Nat), bigB k (n + m * 256 ^ k) = bigB k n
 | 0, _, _ => rfl
 | k + 1, n, m => by
  have h1 : (n + m * 256 ^ (k + 1)) / 256 ^ k = n / 256 ^ k + m * 256 := by
   rw [Nat.pow_succ, ← Nat.mul_assoc, Nat.mul_right_comm, Nat.add_mul_div_right _ _ (Nat.pow_pos (by omega))]
  have h2 := bigB_mod k n (m * 256)
  have e : m * 256 * 256 ^ k = m * 256 ^ (k + 1) := by rw [Nat.pow_succ, Nat.mul_assoc, Nat.mul_comm 256]
  rw [e] at h2
  show UInt8.ofNat ((n + m * 256 ^ (k + 1)) / 256 ^ k) :: bigB k (n + m * 256 ^ (k + 1)) = UInt8.ofNat (n / 256 ^ k) :: bigB k n
  rw [h1, h2]
  congr 1
  apply UInt8.toNat_inj.1
  simp
theorem bigN_big : ∀ (k n : Nat), n < 256 ^ k → bigN (bigB k n) = n
 | 0, n, h => by
  have : n = 0 := by simpa using h
  rw [this]; rfl
 | k + 1, n, h => by
  have hp : 0 < 256 ^ k := Nat.pow_pos (by omega)
  have hd : n / 256 ^ k < 256 := by
   rw [Nat.div_lt_iff_lt_mul hp]
   rw [Nat.pow_succ] at h
   omega
  show bigN (UInt8.ofNat (n / 256 ^ k) :: bigB k n) = n
  rw [bigN_cons, bigB_len]
  have h1 : bigB k n = bigB k (n % 256 ^ k) := by
   have := bigB_mod k (n % 256 ^ k) (n / 256 ^ k)
   rw [Nat.mul_comm, Nat.mod_add_div] at this
   exact this
  rw [h1, bigN_big k _ (Nat.mod_lt _ hp)]
  have h2 : (UInt8.ofNat (n / 256 ^ k)).toNat = n / 256 ^ k := by simp; omega
  rw [h2, Nat.mul_comm]
  exact Nat.div_add_mod n (256 ^ k)
theorem wid_lt {n : Nat} (h : n < 18446744073709551616) : n < 256 ^ wid n := by
 unfold wid
 repeat' split
 all_goals first | omega | (simp; omega)
theorem take_app (t r : List UInt8) : (RdV.mk 0 (t ++ r)).take t.length = (t, true, ⟨0, r⟩) := by
 unfold RdV.take
 rw [if_pos rfl, if_pos (by simp)]
 simp
theorem byte_app (b : UInt8) (r : List UInt8) : (RdV.mk 0 (b :: r)).byte = (b, ⟨0, r⟩) := by
 have h : (RdV.mk 0 (b :: r)).take 1 = ([b], true, ⟨0, r⟩) := take_app [b] r
 unfold RdV.byte
 rw [h]
 rfl
theorem num_app {n : Nat} (hn : n < 18446744073709551616) (r : List UInt8) : (RdV.mk 0 (numL n ++ r)).num = (n, ⟨0, r⟩) := by
 unfold numL
 by_cases h : n < 248
 ·
  rw [if_pos h]
  unfold RdV.num
  rw [List.singleton_append, byte_app]
  have e : (UInt8.ofNat n).toNat = n := by simp; omega
  rw [if_pos (by rw [e]; exact h)]
  simp only [e]
 ·
  rw [if_neg h]
  have hw := wid_le n
  have hp := wid_pos (n := n) (by omega)
  have e : (UInt8.ofNat (247 + wid n)).toNat = 247 + wid n := by simp; omega
  have ht := take_app (bigB (wid n) n) r
  rw [bigB_len] at ht
  unfold RdV.num
  rw [List.cons_append, byte_app]
  simp only [e]
  rw [if_neg (by omega), show 247 + wid n - 247 = wid n by omega]
  unfold RdV.wide
  rw [ht]
  simp only [if_true]
  rw [bigN_big _ _ (wid_lt hn), if_neg (by omega)]
theorem below_app {n m : Nat} (hn : n < 18446744073709551616) (hm : n < m) (r : List UInt8) : (RdV.mk 0 (numL n ++ r)).below m = (n, ⟨0, r⟩) := by
 unfold RdV.below
 rw [num_app hn]
 simp only [if_true]
 rw [if_pos hm]
theorem str_app' {t : List UInt8} {most : Nat} (ht : t.length ≤ most) (hm : most < 1000000) (r : List UInt8) : (RdV.mk 0 (numL t.length ++ t ++ r)).str most = (t, ⟨0, r⟩) := by
 unfold RdV.str
 rw [List.append_assoc, below_app (by omega) (by omega)]
 simp only [take_app]
theorem str_most (R : RdV) (n : Nat) : (R.str n).1.length ≤ n := by
 obtain ⟨⟨m, R1⟩, hm⟩ : ∃ x, R.below (n + 1) = x := ⟨_, rfl⟩
 have h : m < n + 1 := by
  have h1 : (R.below (n + 1)).1 < n + 1 := by
   unfold RdV.below
   split
   ·
    split
    ·
     assumption
    ·
     exact Nat.succ_pos n
   ·
    exact Nat.succ_pos n
  rw [hm] at h1
  exact h1
 unfold RdV.str
 rw [hm]
 show ((R1.take m).1).length ≤ n
 unfold RdV.take
 split
 ·
  split
  ·
   simp; omega
  ·
   simp
 ·
  simp
end Go.Proofs.YtbckjgageofldaaGreat
namespace Go.Proofs.YtbckjgageofldaaGreat
open Go.RowKit
theorem bs_size (l : List UInt8) : (⟨l.toArray⟩ : ByteArray).size = l.length := by
 show l.toArray.size = l.length
 rw [List.size_toArray]
end Go.Proofs.YtbckjgageofldaaGreat
namespace Go.Proofs.YtbckjgageofldaaGreat
open Go.RowKit
structure Only (g : Nat) (w w' : World) : Prop where
 os : w'.os = w.os
 tape : w'.tape = w.tape
 output : w'.output = w.output
 size : w'.heap.size = w.heap.size
 block : ∀ k, k ≠ g → w'.heap[k]? = w.heap[k]?
theorem Only.refl (g : Nat) (w : World) : Only g w w := ⟨rfl, rfl, rfl, rfl, fun _ _ => rfl⟩
theorem Only.trans {g : Nat} {a b c : World} (h : Only g a b) (k : Only g b c) : Only g a c :=
 ⟨k.os.trans h.os, k.tape.trans h.tape, k.output.trans h.output, k.size.trans h.size, fun i hi => (k.block i hi).trans (h.block i hi)⟩
theorem Only.below {g n : Nat} {w0 a b : World} (h : Below n w0 a) (k : Only g a b) (hg : n ≤ g) : Below n w0 b :=
 ⟨k.os.trans h.os, k.tape.trans h.tape, k.output.trans h.output, by rw [k.size]; exact h.size, fun i hi => (k.block i (by omega)).trans (h.block i hi)⟩
theorem Only.set (g i : Nat) (w : World) (v : Value) : Only g w (w.setCell ⟨g, i, none⟩ v) := by
 have h := below_setV (x := v) (i := i) (b := g) (Below.refl 0 w) (Nat.zero_le _)
 refine ⟨h.os, h.tape, h.output, ?_, fun k hk => Below.heap_setCell _ _ _ _ (by exact hk)⟩
 unfold World.setCell
 split <;> simp
def rdCells (R : RdV) : List Value := [.int .i64 (R.e : Int), .string ⟨R.s.toArray⟩]
structure RdAt (w : World) (g : Nat) (R : RdV) : Prop where
 row : w.heap[g]? = some (.cells (rdCells R).toArray 246 (0, 0))
 len : R.s.length ≤ maxLen
theorem RdAt.cells {w : World} {g : Nat} {R : RdV} (h : RdAt w g R) : w.cell? ⟨g, 0, none⟩ = some (.int .i64 (R.e : Int)) ∧ w.cell? ⟨g, 1, none⟩ = some (.string ⟨R.s.toArray⟩) :=
 ⟨cell_of_row _ _ _ _ _ _ h.row, cell_of_row _ _ _ _ _ _ h.row⟩
theorem RdAt.thawed {w : World} {g : Nat} {R : RdV} (h : RdAt w g R) (j : Nat) : w.frozen? ⟨g, j, none⟩ = false := by
 have h := h.row
 simp [World.frozen?, h]
theorem RdAt.lt {w : World} {g : Nat} {R : RdV} (h : RdAt w g R) : g < w.heap.size := (Array.getElem?_eq_some_iff.1 h.row).1
theorem RdAt.below {w w' : World} {g : Nat} {R : RdV} (h : RdAt w g R) (hb : Below w.heap.size w w') : RdAt w' g R := ⟨(hb.block g h.lt).trans h.row, h.len⟩
theorem RdAt.other {w w' : World} {g q : Nat} {R : RdV} (h : RdAt w g R) (hq : g ≠ q) (ho : Only q w w') : RdAt w' g R := ⟨(ho.block g hq).trans h.row, h.len⟩
theorem RdAt.err {w : World} {g e : Nat} {s : List UInt8} (h : RdAt w g ⟨e, s⟩) (c : Nat) : RdAt (w.setCell ⟨g, 0, none⟩ (.int .i64 (c : Int))) g ⟨c, s⟩ := by
 refine ⟨?_, h.len⟩
 rw [heap_setCell_same _ _ _ _ _ _ h.row]
 rfl
theorem RdAt.rest {w : World} {g e : Nat} {s : List UInt8} (h : RdAt w g ⟨e, s⟩) (t : List UInt8) (ht : t.length ≤ s.length) : RdAt (w.setCell ⟨g, 1, none⟩ (.string ⟨t.toArray⟩)) g ⟨e, t⟩ := by
 refine ⟨?_, Nat.le_trans ht h.len⟩
 rw [heap_setCell_same _ _ _ _ _ _ h.row]
 rfl
theorem bs_extract (l : List UInt8) (a b : Nat) : (⟨l.toArray⟩ : ByteArray).extract a b = ⟨((l.take b).drop a).toArray⟩ := by
 apply ByteArray.ext
 rw [ByteArray.data_extract]
 simp [List.drop_take]
set_option maxHeartbeats 4000000 in
theorem fail_any (R : RdV) (c g : Nat) (w : World) (h : RdAt w g R) :
  Calls Tryz.prog 156 #[.pointer (some ⟨g, 0, none⟩), .int .i64 (c : Int)] w fun e w' => e = .returned (.tuple #[]) ∧ RdAt w' g (R.fail c) ∧ Only g w w' := by
 obtain ⟨e, s⟩ := R
 obtain ⟨f0, f1⟩ := h.cells
 have f2 := h.thawed 0
 unfold RdV.fail
 by_cases he : e = 0
 ·
  subst he
  rw [if_pos rfl]
  have hh := h.err c
  have H := Lib.hid h; clear h
  have HH := Lib.hid (And.intro hh (Only.set g 0 w (.int .i64 (c : Int)))); clear hh
  go_enter Tryz.func156, Tryz.ntmps156
  go_wp2_with fail
  refine bodyPost_end (results_none rfl _ _ _) rfl ?_
  exact ⟨rfl, HH.out.1, HH.out.2⟩
 ·
  rw [if_neg he]
  have he' : ((e : Int) == 0) = false := by rw [beq_eq_false_iff_ne]; omega
  have H := Lib.hid h; clear h
  have HE := Lib.hid he; clear he
  go_enter Tryz.func156, Tryz.ntmps156
  go_wp2_with fail
  refine bodyPost_end (results_none rfl _ _ _) rfl ?_
  exact ⟨rfl, H.out, Only.refl _ _⟩
theorem fail_short (R : RdV) (g : Nat) (w : World) (h : RdAt w g R) :
  Calls Tryz.prog 156 #[.pointer (some ⟨g, 0, none⟩), .int .i64 3] w fun e w' => e = .returned (.tuple #[]) ∧ RdAt w' g (R.fail 3) ∧ Only g w w' := fail_any R 3 g w h
theorem fail_form (R : RdV) (g : Nat) (w : World) (h : RdAt w g R) :
  Calls Tryz.prog 156 #[.pointer (some ⟨g, 0, none⟩), .int .i64 4] w fun e w' => e = .returned (.tuple #[]) ∧ RdAt w' g (R.fail 4) ∧ Only g w w' := fail_any R 4 g w h
set_option maxHeartbeats 4000000 in
theorem failed_any (R : RdV) (g : Nat) (w : World) (h : RdAt w g R) :
  Calls Tryz.prog 151 #[.pointer (some ⟨g, 0, none⟩)] w fun e w' => e = .returned (.bool (decide (R.e ≠ 0))) ∧ w = w' := by
 obtain ⟨f0, f1⟩ := h.cells
 obtain ⟨b, hb⟩ : ∃ b, decide (R.e ≠ 0) = b := ⟨_, rfl⟩
 have hb' : ((R.e : Int) != 0) = b := by
  rw [← hb]
  by_cases h0 : R.e = 0
  ·
   simp [h0]
  ·
   have : (R.e : Int) ≠ 0 := by omega
   simp [h0]
 rw [hb]
 clear h hb
 go_enter Tryz.func151, Tryz.ntmps151
 go_wp2_with fail
 go_ret
 exact ⟨rfl, rfl⟩
theorem take_str (l : List UInt8) (n : Nat) : (⟨l.toArray⟩ : ByteArray).extract 0 n = ⟨(l.take n).toArray⟩ ∧ (⟨l.toArray⟩ : ByteArray).extract n l.length = ⟨(l.drop n).toArray⟩ := by
 refine ⟨by rw [bs_extract]; simp, by rw [bs_extract]; simp⟩
set_option maxHeartbeats 8000000 in
theorem take_any (R : RdV) (n : Nat) (_ : n < 18446744073709551616) (g : Nat) (w : World) (h : RdAt w g R) :
  Calls Tryz.prog 150 #[.pointer (some ⟨g, 0, none⟩), .int .u64 (n : Int)] w fun e w' => e = .returned (.tuple #[.string ⟨(R.take n).1.toArray⟩, .bool (R.take n).2.1]) ∧ RdAt w' g (R.take n).2.2 ∧ Only g w w' := by
 have hfd := failed_any R g w h
 obtain ⟨e, s⟩ := R
 have hlen := h.len
 unfold maxLen at hlen
 simp only at hlen hfd
 obtain ⟨f0, f1⟩ := h.cells
 simp only at f0 f1
 have f3 := h.thawed 1
 unfold RdV.take
 by_cases he : e = 0
 ·
  subst he
  have hfd : Calls Tryz.prog 151 #[.pointer (some ⟨g, 0, none⟩)] w fun e w' => e = .returned (.bool false) ∧ w = w' := hfd
  simp only [if_true]
  have Hfd := Lib.hid hfd; clear hfd
  have hsz := bs_size s
  have hwrap : IntKind.u64.wrap (s.length : Int) = (s.length : Int) := by rw [IntKind.wrap_u64]; omega
  by_cases hs : n ≤ s.length
  ·
   rw [if_pos hs]
   obtain ⟨t1, t2⟩ := take_str s n
   have hs' : ¬ (s.length : Int) < (n : Int) := by omega
   have HH := Lib.hid (And.intro (h.rest (s.drop n) (by simp)) (Only.set g 1 w (.string ⟨(s.drop n).toArray⟩)))
   have H := Lib.hid h; clear h
   go_enter Tryz.func150, Tryz.ntmps150
   go_wp2_with ((with_reducible refine Hfd.out.mono ?_); rintro e w' ⟨rfl, rfl⟩)
   refine bodyPost_ret (v := .tuple #[.string ⟨(s.take n).toArray⟩, .bool true]) (by simp [results, Tryz.results150, go_sem]) rfl ?_
   exact ⟨rfl, HH.out.1, HH.out.2⟩
  ·
   rw [if_neg hs]
   have hs' : (s.length : Int) < (n : Int) := by omega
   have hfl := fail_short ⟨0, s⟩ g w h
   have Hfl := Lib.hid hfl; clear hfl
   have H := Lib.hid h; clear h
   go_enter Tryz.func150, Tryz.ntmps150
   go_wp2_with (first
    | ((with_reducible refine Hfd.out.mono ?_); rintro e w' ⟨rfl, rfl⟩)
    | ((with_reducible refine Hfl.out.mono ?_); rintro e w2 ⟨rfl, h2⟩; have H2 := Lib.hid h2; clear h2))
   refine bodyPost_ret (v := .tuple #[Value.string ⟨#[]⟩, .bool false]) (by simp [results, Tryz.results150, go_sem]) rfl ?_
   exact ⟨rfl, H2.out⟩
 ·
  have hfd : Calls Tryz.prog 151 #[.pointer (some ⟨g, 0, none⟩)] w fun e w' => e = .returned (.bool true) ∧ w = w' := by simpa [he] using hfd
  rw [if_neg he]
  have Hfd := Lib.hid hfd; clear hfd
  have H := Lib.hid h; clear h
  go_enter Tryz.func150, Tryz.ntmps150
  go_wp2_with ((with_reducible refine Hfd.out.mono ?_); rintro e w' ⟨rfl, rfl⟩)
  refine bodyPost_ret (v := .tuple #[Value.string ⟨#[]⟩, .bool false]) (by simp [results, Tryz.results150, go_sem]) rfl ?_
  exact ⟨rfl, H.out, Only.refl _ _⟩
set_option maxHeartbeats 8000000 in
theorem byte_any (R : RdV) (g : Nat) (w : World) (h : RdAt w g R) :
  Calls Tryz.prog 97 #[.pointer (some ⟨g, 0, none⟩)] w fun e w' => e = .returned (.int .u8 (R.byte.1.toNat : Int)) ∧ RdAt w' g R.byte.2 ∧ Only g w w' := by
 have ht : Calls Tryz.prog 150 #[.pointer (some ⟨g, 0, none⟩), .int .u64 1] w fun e w' => e = .returned (.tuple #[.string ⟨(R.take 1).1.toArray⟩, .bool (R.take 1).2.1]) ∧ RdAt w' g (R.take 1).2.2 ∧ Only g w w' := take_any R 1 (by omega) g w h
 clear h
 unfold RdV.byte
 have hcase : ((R.take 1).2.1 = true ∧ (R.take 1).1.length = 1) ∨ ((R.take 1).2.1 = false ∧ (R.take 1).1 = []) := by
  unfold RdV.take
  split
  ·
   split
   ·
    exact .inl ⟨rfl, by simp; omega⟩
   ·
    exact .inr ⟨rfl, rfl⟩
  ·
   exact .inr ⟨rfl, rfl⟩
 generalize R.take 1 = X at *
 obtain ⟨t, b, R2⟩ := X
 simp only at ht hcase ⊢
 rcases hcase with ⟨rfl, hl⟩ | ⟨rfl, rfl⟩
 ·
  match t, hl with
  | [x], _ =>
   have Ht := Lib.hid ht; clear ht
   go_enter Tryz.func97, Tryz.ntmps97
   go_wp2_with ((with_reducible refine Ht.out.mono ?_); rintro e w2 ⟨rfl, h2⟩; have H2 := Lib.hid h2; clear h2)
   go_ret
   exact ⟨rfl, H2.out⟩
 ·
  have Ht := Lib.hid ht; clear ht
  go_enter Tryz.func97, Tryz.ntmps97
  go_wp2_with ((with_reducible refine Ht.out.mono ?_); rintro e w2 ⟨rfl, h2⟩; have H2 := Lib.hid h2; clear h2)
  go_ret
  exact ⟨rfl, H2.out⟩
set_option maxHeartbeats 4000000 in
theorem bad_any (R : RdV) (g : Nat) (w : World) (h : RdAt w g R) :
  Calls Tryz.prog 152 #[.pointer (some ⟨g, 0, none⟩)] w fun e w' => e = .returned (.tuple #[]) ∧ RdAt w' g (R.fail 4) ∧ Only g w w' := by
 have Hfl := Lib.hid (fail_form R g w h); clear h
 go_enter Tryz.func152, Tryz.ntmps152
 go_wp2_with ((with_reducible refine Hfl.out.mono ?_); rintro e w2 ⟨rfl, h2⟩; have H2 := Lib.hid h2; clear h2)
 refine bodyPost_end (results_none rfl _ _ _) rfl ?_
 exact ⟨rfl, H2.out⟩
set_option maxHeartbeats 4000000 in
theorem err_any (R : RdV) (g : Nat) (w : World) (h : RdAt w g R) :
  Calls Tryz.prog 89 #[.pointer (some ⟨g, 0, none⟩)] w fun e w' => e = .returned (.int .i64 (R.e : Int)) ∧ w = w' := by
 obtain ⟨f0, f1⟩ := h.cells
 clear h
 go_enter Tryz.func89, Tryz.ntmps89
 go_wp2_with fail
 go_ret
 exact ⟨rfl, rfl⟩
def RdV.end_ (R : RdV) : RdV := if R.s = [] then R else R.fail 4
set_option maxHeartbeats 4000000 in
theorem end_any (R : RdV) (g : Nat) (w : World) (h : RdAt w g R) :
  Calls Tryz.prog 102 #[.pointer (some ⟨g, 0, none⟩)] w fun e w' => e = .returned (.int .i64 (R.end_.e : Int)) ∧ RdAt w' g R.end_ ∧ Only g w w' := by
 have hsz := bs_size R.s
 unfold RdV.end_
 by_cases hs : R.s = []
 ·
  rw [if_pos hs]
  have hl : R.s.length = 0 := by rw [hs]; rfl
  obtain ⟨f0, f1⟩ := h.cells
  have H := Lib.hid h; clear h
  rw [hl] at hsz
  have hlt : ¬ (0 : Int) < 0 := by omega
  have Hs := Lib.hid hs; clear hs hl
  go_enter Tryz.func102, Tryz.ntmps102
  go_wp2_with fail
  go_ret
  exact ⟨rfl, H.out, Only.refl _ _⟩
 ·
  rw [if_neg hs]
  have hl : 0 < R.s.length := List.length_pos_iff.2 hs
  have hl' : (0 : Int) < (R.s.length : Int) := by omega
  obtain ⟨f0, f1⟩ := h.cells
  have Hfl := Lib.hid (fail_form R g w h)
  clear h hs hl
  go_enter Tryz.func102, Tryz.ntmps102
  go_wp2_with ((with_reducible refine Hfl.out.mono ?_); rintro e w2 ⟨rfl, h2⟩; have H2 := Lib.hid h2; obtain ⟨k0, k1⟩ := h2.1.cells; clear h2 f0 f1)
  go_ret
  exact ⟨rfl, H2.out⟩
end Go.Proofs.YtbckjgageofldaaGreat
