/- Readers, plain: what reading takes of bytes, and its laws: what was told as a number or a text is read back, and what is read was told. No condition. -/
import Derived.Test.YtkngadbeflepoaaMMachineBack30
import Derived.Test.YtkngadbeflepoaaMMachineBack16
namespace Go.Proofs.Ytkngadbeflepoaa
open Go.RowKit

/-- A reader: its first error, and the bytes that are not gone over. -/
structure RdV where
  e : Nat
  s : List UInt8
def RdV.fail (R : RdV) (c : Nat) : RdV := if R.e = 0 then ⟨c, R.s⟩ else R
def RdV.take (R : RdV) (n : Nat) : List UInt8 × Bool × RdV := if R.e = 0 then (if n ≤ R.s.length then (R.s.take n, true, ⟨0, R.s.drop n⟩) else ([], false, ⟨3, R.s⟩)) else ([], false, R)
def RdV.byte (R : RdV) : UInt8 × RdV := ((R.take 1).1.headD 0, (R.take 1).2.2)
def bigN (l : List UInt8) : Nat := l.foldl (fun n b => n * 256 + b.toNat) 0
def RdV.wide (R : RdV) (k : Nat) : Nat × RdV :=
  if (R.take k).2.1 = true then (if bigN (R.take k).1 < 248 ∨ wid (bigN (R.take k).1) ≠ k then (0, (R.take k).2.2.fail 4) else (bigN (R.take k).1, (R.take k).2.2)) else (0, (R.take k).2.2)
def RdV.num (R : RdV) : Nat × RdV := if R.byte.1.toNat < 248 then (R.byte.1.toNat, R.byte.2) else R.byte.2.wide (R.byte.1.toNat - 247)
def RdV.below (R : RdV) (n : Nat) : Nat × RdV := if R.num.2.e = 0 then (if R.num.1 < n then R.num else (0, R.num.2.fail 4)) else (0, R.num.2)
def RdV.str (R : RdV) (most : Nat) : List UInt8 × RdV := (((R.below (most + 1)).2.take (R.below (most + 1)).1).1, ((R.below (most + 1)).2.take (R.below (most + 1)).1).2.2)

theorem bigN_snoc (l : List UInt8) (b : UInt8) : bigN (l ++ [b]) = bigN l * 256 + b.toNat := by
  unfold bigN
  rw [List.foldl_append]
  rfl
theorem bigN_from : ∀ (l : List UInt8) (n : Nat), l.foldl (fun n b => n * 256 + b.toNat) n = n * 256 ^ l.length + bigN l
  | [], n => by simp [bigN]
  | b :: r, n => by
    have h1 := bigN_from r (n * 256 + b.toNat)
    have h2 := bigN_from r (0 * 256 + b.toNat)
    unfold bigN at h1 h2 ⊢
    simp only [List.foldl_cons, List.length_cons] at h1 h2 ⊢
    rw [h1, h2, Nat.pow_succ]
    simp only [Nat.add_mul, Nat.zero_mul, Nat.zero_add]
    have : n * 256 * 256 ^ r.length = n * (256 ^ r.length * 256) := by rw [Nat.mul_assoc, Nat.mul_comm 256]
    omega
theorem bigN_cons (b : UInt8) (r : List UInt8) : bigN (b :: r) = b.toNat * 256 ^ r.length + bigN r := by
  have h := bigN_from r (0 * 256 + b.toNat)
  show r.foldl (fun n b => n * 256 + b.toNat) (0 * 256 + b.toNat) = _
  rw [h]
  simp
theorem bigN_lt : ∀ (l : List UInt8), bigN l < 256 ^ l.length
  | [] => by simp [bigN]
  | b :: r => by
    have h := bigN_lt r
    have hb := b.toNat_lt
    rw [bigN_cons, List.length_cons, Nat.pow_succ]
    have : b.toNat * 256 ^ r.length + 256 ^ r.length ≤ 256 * 256 ^ r.length := by
      have := Nat.mul_le_mul_right (256 ^ r.length) (show b.toNat + 1 ≤ 256 by omega)
      rw [Nat.add_mul, Nat.one_mul] at this
      exact this
    rw [Nat.mul_comm 256] at this
    omega
theorem bigB_mod : ∀ (k n m : Nat), bigB k (n + m * 256 ^ k) = bigB k n
  | 0, _, _ => rfl
  | k + 1, n, m => by
    have h1 : (n + m * 256 ^ (k + 1)) / 256 ^ k = n / 256 ^ k + m * 256 := by
      rw [Nat.pow_succ, ← Nat.mul_assoc, Nat.mul_right_comm, Nat.add_mul_div_right _ _ (Nat.pow_pos (by omega))]
    have h2 := bigB_mod k n (m * 256)
    have e : m * 256 * 256 ^ k = m * 256 ^ (k + 1) := by rw [Nat.pow_succ, Nat.mul_assoc, Nat.mul_comm 256]
    rw [e] at h2
    show UInt8.ofNat ((n + m * 256 ^ (k + 1)) / 256 ^ k) :: bigB k (n + m * 256 ^ (k + 1)) = UInt8.ofNat (n / 256 ^ k) :: bigB k n
    rw [h1, h2]
    congr 1
    apply UInt8.toNat_inj.1
    simp
theorem big_bigN : ∀ (l : List UInt8), bigB l.length (bigN l) = l
  | [] => rfl
  | b :: r => by
    have hl := bigN_lt r
    have hp : 0 < 256 ^ r.length := Nat.pow_pos (by omega)
    rw [bigN_cons]
    show UInt8.ofNat ((b.toNat * 256 ^ r.length + bigN r) / 256 ^ r.length) :: bigB r.length (b.toNat * 256 ^ r.length + bigN r) = b :: r
    have h1 : (b.toNat * 256 ^ r.length + bigN r) / 256 ^ r.length = b.toNat := by
      rw [Nat.add_comm, Nat.add_mul_div_right _ _ hp, Nat.div_eq_of_lt hl]
      omega
    rw [h1, Nat.add_comm, bigB_mod, big_bigN r]
    simp
theorem bigN_big : ∀ (k n : Nat), n < 256 ^ k → bigN (bigB k n) = n
  | 0, n, h => by
    have : n = 0 := by simpa using h
    rw [this]; rfl
  | k + 1, n, h => by
    have hp : 0 < 256 ^ k := Nat.pow_pos (by omega)
    have hd : n / 256 ^ k < 256 := by
      rw [Nat.div_lt_iff_lt_mul hp]
      rw [Nat.pow_succ] at h
      omega
    show bigN (UInt8.ofNat (n / 256 ^ k) :: bigB k n) = n
    rw [bigN_cons, bigB_len]
    have h1 : bigB k n = bigB k (n % 256 ^ k) := by
      have := bigB_mod k (n % 256 ^ k) (n / 256 ^ k)
      rw [Nat.mul_comm, Nat.mod_add_div] at this
      exact this
    rw [h1, bigN_big k _ (Nat.mod_lt _ hp)]
    have h2 : (UInt8.ofNat (n / 256 ^ k)).toNat = n / 256 ^ k := by simp; omega
    rw [h2, Nat.mul_comm]
    exact Nat.div_add_mod n (256 ^ k)
theorem wid_lt {n : Nat} (h : n < 18446744073709551616) : n < 256 ^ wid n := by
  unfold wid
  repeat' split
  all_goals first | omega | (simp; omega)
theorem wid_most (n : Nat) : wid n ≤ 8 := wid_le n

/-! What was told is read back. -/
theorem take_app (t r : List UInt8) : (RdV.mk 0 (t ++ r)).take t.length = (t, true, ⟨0, r⟩) := by
  unfold RdV.take
  rw [if_pos rfl, if_pos (by simp)]
  simp
theorem byte_app (b : UInt8) (r : List UInt8) : (RdV.mk 0 (b :: r)).byte = (b, ⟨0, r⟩) := by
  have h : (RdV.mk 0 (b :: r)).take 1 = ([b], true, ⟨0, r⟩) := take_app [b] r
  unfold RdV.byte
  rw [h]
  rfl
theorem num_app {n : Nat} (hn : n < 18446744073709551616) (r : List UInt8) : (RdV.mk 0 (numL n ++ r)).num = (n, ⟨0, r⟩) := by
  unfold numL
  by_cases h : n < 248
  · rw [if_pos h]
    unfold RdV.num
    rw [List.singleton_append, byte_app]
    have e : (UInt8.ofNat n).toNat = n := by simp; omega
    rw [if_pos (by rw [e]; exact h)]
    simp only [e]
  · rw [if_neg h]
    have hw := wid_le n
    have hp := wid_pos (n := n) (by omega)
    have e : (UInt8.ofNat (247 + wid n)).toNat = 247 + wid n := by simp; omega
    have ht := take_app (bigB (wid n) n) r
    rw [bigB_len] at ht
    unfold RdV.num
    rw [List.cons_append, byte_app]
    simp only [e]
    rw [if_neg (by omega), show 247 + wid n - 247 = wid n by omega]
    unfold RdV.wide
    rw [ht]
    simp only [if_true]
    rw [bigN_big _ _ (wid_lt hn), if_neg (by omega)]
theorem below_app {n m : Nat} (hn : n < 18446744073709551616) (hm : n < m) (r : List UInt8) : (RdV.mk 0 (numL n ++ r)).below m = (n, ⟨0, r⟩) := by
  unfold RdV.below
  rw [num_app hn]
  simp only [if_true]
  rw [if_pos hm]
theorem str_app' {t : List UInt8} {most : Nat} (ht : t.length ≤ most) (hm : most < 1000000) (r : List UInt8) : (RdV.mk 0 (numL t.length ++ t ++ r)).str most = (t, ⟨0, r⟩) := by
  unfold RdV.str
  rw [List.append_assoc, below_app (by omega) (by omega)]
  simp only [take_app]
/-! What is read was told. -/
theorem take_inv {R R2 : RdV} {n : Nat} {t : List UInt8} {b : Bool} (h : R.take n = (t, b, R2)) (he : R2.e = 0) : R.e = 0 ∧ b = true ∧ t.length = n ∧ R.s = t ++ R2.s := by
  unfold RdV.take at h
  split at h
  · rename_i h0
    split at h
    · rename_i hl
      cases h
      exact ⟨h0, rfl, by simp; omega, by simp⟩
    · cases h; cases he
  · rename_i h0
    cases h
    exact absurd he h0
theorem byte_inv {R R2 : RdV} {b : UInt8} (h : R.byte = (b, R2)) (he : R2.e = 0) : R.e = 0 ∧ R.s = b :: R2.s := by
  obtain ⟨⟨t, k, R3⟩, ht⟩ : ∃ x, R.take 1 = x := ⟨_, rfl⟩
  unfold RdV.byte at h
  rw [ht] at h
  cases h
  obtain ⟨h1, _, h3, h4⟩ := take_inv ht he
  refine ⟨h1, ?_⟩
  match t, h3 with
  | [x], _ => exact h4
theorem fail_e {R : RdV} {c : Nat} (hc : c ≠ 0) : (R.fail c).e ≠ 0 := by
  unfold RdV.fail
  split
  · exact hc
  · rename_i h; exact h
theorem wide_inv {R R2 : RdV} {k n : Nat} (h : R.wide k = (n, R2)) (he : R2.e = 0) : R.e = 0 ∧ 248 ≤ n ∧ wid n = k ∧ R.s = bigB k n ++ R2.s := by
  obtain ⟨⟨t, b, R3⟩, ht⟩ : ∃ x, R.take k = x := ⟨_, rfl⟩
  unfold RdV.wide at h
  rw [ht] at h
  simp only at h
  split at h
  · split at h
    · cases h; exact absurd he (fail_e (by omega))
    · rename_i hw
      cases h
      obtain ⟨h1, _, h3, h4⟩ := take_inv ht he
      have hb := big_bigN t
      rw [h3] at hb
      exact ⟨h1, by omega, by omega, by rw [hb]; exact h4⟩
  · rename_i hb
    cases h
    obtain ⟨_, h2, _, _⟩ := take_inv ht he
    exact absurd h2 hb
theorem num_inv {R R2 : RdV} {n : Nat} (h : R.num = (n, R2)) (he : R2.e = 0) : R.e = 0 ∧ R.s = numL n ++ R2.s := by
  obtain ⟨⟨b, R3⟩, hb⟩ : ∃ x, R.byte = x := ⟨_, rfl⟩
  unfold RdV.num at h
  rw [hb] at h
  simp only at h
  split at h
  · rename_i hl
    cases h
    obtain ⟨h1, h2⟩ := byte_inv hb he
    refine ⟨h1, ?_⟩
    unfold numL
    rw [if_pos hl, h2]
    simp
  · rename_i hl
    obtain ⟨h1, h2, h3, h4⟩ := wide_inv h he
    obtain ⟨h5, h6⟩ := byte_inv hb h1
    refine ⟨h5, ?_⟩
    have hb8 := b.toNat_lt
    unfold numL
    rw [if_neg (by omega), h3, h6, h4, show 247 + (b.toNat - 247) = b.toNat by omega]
    simp
theorem below_inv {R R2 : RdV} {n m : Nat} (h : R.below m = (n, R2)) (he : R2.e = 0) : R.e = 0 ∧ n < m ∧ R.s = numL n ++ R2.s := by
  obtain ⟨⟨v, R3⟩, hv⟩ : ∃ x, R.num = x := ⟨_, rfl⟩
  unfold RdV.below at h
  rw [hv] at h
  simp only at h
  split at h
  · split at h
    · rename_i hm
      cases h
      obtain ⟨h1, h2⟩ := num_inv hv he
      exact ⟨h1, hm, h2⟩
    · cases h; exact absurd he (fail_e (by omega))
  · rename_i h0
    cases h
    exact absurd he h0
theorem str_inv {R R2 : RdV} {most : Nat} {t : List UInt8} (h : R.str most = (t, R2)) (he : R2.e = 0) : R.e = 0 ∧ t.length ≤ most ∧ R.s = numL t.length ++ t ++ R2.s := by
  obtain ⟨⟨n, R3⟩, hn⟩ : ∃ x, R.below (most + 1) = x := ⟨_, rfl⟩
  obtain ⟨⟨t', b, R4⟩, ht⟩ : ∃ x, R3.take n = x := ⟨_, rfl⟩
  unfold RdV.str at h
  rw [hn] at h
  simp only [ht] at h
  cases h
  obtain ⟨h1, _, h3, h4⟩ := take_inv ht he
  obtain ⟨h5, h6, h7⟩ := below_inv hn h1
  exact ⟨h5, by omega, by rw [h7, h3, h4, List.append_assoc]⟩
/-! What is left never grows. -/
theorem take_len (R : RdV) (n : Nat) : (R.take n).2.2.s.length ≤ R.s.length := by
  unfold RdV.take
  split
  · split
    · simp
    · exact Nat.le_refl _
  · exact Nat.le_refl _
theorem fail_s (R : RdV) (c : Nat) : (R.fail c).s = R.s := by
  unfold RdV.fail
  split <;> rfl
theorem byte_len (R : RdV) : R.byte.2.s.length ≤ R.s.length := take_len R 1
theorem wide_len (R : RdV) (k : Nat) : (R.wide k).2.s.length ≤ R.s.length := by
  have h := take_len R k
  unfold RdV.wide
  split
  · split
    · rw [fail_s]; exact h
    · exact h
  · exact h
theorem num_len (R : RdV) : R.num.2.s.length ≤ R.s.length := by
  have h := byte_len R
  unfold RdV.num
  split
  · exact h
  · exact Nat.le_trans (wide_len _ _) h
theorem below_len (R : RdV) (n : Nat) : (R.below n).2.s.length ≤ R.s.length := by
  have h := num_len R
  unfold RdV.below
  split
  · split
    · exact h
    · rw [fail_s]; exact h
  · exact h
theorem rdstr_len (R : RdV) (n : Nat) : (R.str n).2.s.length ≤ R.s.length := Nat.le_trans (take_len _ _) (below_len R _)
theorem str_most (R : RdV) (n : Nat) : (R.str n).1.length ≤ n := by
  obtain ⟨⟨m, R1⟩, hm⟩ : ∃ x, R.below (n + 1) = x := ⟨_, rfl⟩
  have h : m < n + 1 := by
    have h1 : (R.below (n + 1)).1 < n + 1 := by
      unfold RdV.below
      split
      · split
        · assumption
        · exact Nat.succ_pos n
      · exact Nat.succ_pos n
    rw [hm] at h1
    exact h1
  unfold RdV.str
  rw [hm]
  show ((R1.take m).1).length ≤ n
  unfold RdV.take
  split
  · split
    · simp; omega
    · simp
  · simp
end Go.Proofs.Ytkngadbeflepoaa
/- Bytes as a list. No condition. -/
namespace Go.Proofs.Ytkngadbeflepoaa
open Go.RowKit

theorem bs_size (l : List UInt8) : (⟨l.toArray⟩ : ByteArray).size = l.length := by
  show l.toArray.size = l.length
  rw [List.size_toArray]
end Go.Proofs.Ytkngadbeflepoaa
/- Readers: fail, failed, take, Byte, Bad, Err, End. Condition: the reader lies there. -/
namespace Go.Proofs.Ytkngadbeflepoaa
open Go.RowKit

/-- Nothing but one block is another. -/
structure Only (g : Nat) (w w' : World) : Prop where
  os : w'.os = w.os
  tape : w'.tape = w.tape
  output : w'.output = w.output
  size : w'.heap.size = w.heap.size
  block : ∀ k, k ≠ g → w'.heap[k]? = w.heap[k]?
theorem Only.refl (g : Nat) (w : World) : Only g w w := ⟨rfl, rfl, rfl, rfl, fun _ _ => rfl⟩
theorem Only.trans {g : Nat} {a b c : World} (h : Only g a b) (k : Only g b c) : Only g a c :=
  ⟨k.os.trans h.os, k.tape.trans h.tape, k.output.trans h.output, k.size.trans h.size, fun i hi => (k.block i hi).trans (h.block i hi)⟩
theorem Only.below {g n : Nat} {w0 a b : World} (h : Below n w0 a) (k : Only g a b) (hg : n ≤ g) : Below n w0 b :=
  ⟨k.os.trans h.os, k.tape.trans h.tape, k.output.trans h.output, by rw [k.size]; exact h.size, fun i hi => (k.block i (by omega)).trans (h.block i hi)⟩
theorem Only.set (g i : Nat) (w : World) (v : Value) : Only g w (w.setCell ⟨g, i, none⟩ v) := by
  have h := below_setV (x := v) (i := i) (b := g) (Below.refl 0 w) (Nat.zero_le _)
  refine ⟨h.os, h.tape, h.output, ?_, fun k hk => Below.heap_setCell _ _ _ _ (by exact hk)⟩
  unfold World.setCell
  split <;> simp
def rdCells (R : RdV) : List Value := [.int .i64 (R.e : Int), .string ⟨R.s.toArray⟩]
/-- A reader lies there. -/
structure RdAt (w : World) (g : Nat) (R : RdV) : Prop where
  row : w.heap[g]? = some (.cells (rdCells R).toArray 174 (0, 0))
  len : R.s.length ≤ maxLen
theorem RdAt.cells {w : World} {g : Nat} {R : RdV} (h : RdAt w g R) : w.cell? ⟨g, 0, none⟩ = some (.int .i64 (R.e : Int)) ∧ w.cell? ⟨g, 1, none⟩ = some (.string ⟨R.s.toArray⟩) :=
  ⟨cell_of_row _ _ _ _ _ _ h.row, cell_of_row _ _ _ _ _ _ h.row⟩
theorem RdAt.thawed {w : World} {g : Nat} {R : RdV} (h : RdAt w g R) (j : Nat) : w.frozen? ⟨g, j, none⟩ = false := by
  have h := h.row
  simp [World.frozen?, h]
theorem RdAt.lt {w : World} {g : Nat} {R : RdV} (h : RdAt w g R) : g < w.heap.size := (Array.getElem?_eq_some_iff.1 h.row).1
theorem RdAt.below {w w' : World} {g : Nat} {R : RdV} (h : RdAt w g R) (hb : Below w.heap.size w w') : RdAt w' g R := ⟨(hb.block g h.lt).trans h.row, h.len⟩
theorem RdAt.other {w w' : World} {g q : Nat} {R : RdV} (h : RdAt w g R) (hq : g ≠ q) (ho : Only q w w') : RdAt w' g R := ⟨(ho.block g hq).trans h.row, h.len⟩
theorem RdAt.err {w : World} {g e : Nat} {s : List UInt8} (h : RdAt w g ⟨e, s⟩) (c : Nat) : RdAt (w.setCell ⟨g, 0, none⟩ (.int .i64 (c : Int))) g ⟨c, s⟩ := by
  refine ⟨?_, h.len⟩
  rw [heap_setCell_same _ _ _ _ _ _ h.row]
  rfl
theorem RdAt.rest {w : World} {g e : Nat} {s : List UInt8} (h : RdAt w g ⟨e, s⟩) (t : List UInt8) (ht : t.length ≤ s.length) : RdAt (w.setCell ⟨g, 1, none⟩ (.string ⟨t.toArray⟩)) g ⟨e, t⟩ := by
  refine ⟨?_, Nat.le_trans ht h.len⟩
  rw [heap_setCell_same _ _ _ _ _ _ h.row]
  rfl
theorem bs_extract (l : List UInt8) (a b : Nat) : (⟨l.toArray⟩ : ByteArray).extract a b = ⟨((l.take b).drop a).toArray⟩ := by
  apply ByteArray.ext
  rw [ByteArray.data_extract]
  simp [List.drop_take]
set_option maxHeartbeats 4000000 in
theorem fail_any (R : RdV) (c g : Nat) (w : World) (h : RdAt w g R) :
    Calls Try.prog 124 #[.pointer (some ⟨g, 0, none⟩), .int .i64 (c : Int)] w fun e w' => e = .returned (.tuple #[]) ∧ RdAt w' g (R.fail c) ∧ Only g w w' := by
  obtain ⟨e, s⟩ := R
  obtain ⟨f0, f1⟩ := h.cells
  have f2 := h.thawed 0
  unfold RdV.fail
  by_cases he : e = 0
  · subst he
    rw [if_pos rfl]
    have hh := h.err c
    have H := Lib.hid h; clear h
    have HH := Lib.hid (And.intro hh (Only.set g 0 w (.int .i64 (c : Int)))); clear hh
    go_enter Try.func124, Try.ntmps124
    go_wp2_with fail
    refine bodyPost_end (results_none rfl _ _ _) rfl ?_
    exact ⟨rfl, HH.out.1, HH.out.2⟩
  · rw [if_neg he]
    have he' : ((e : Int) == 0) = false := by rw [beq_eq_false_iff_ne]; omega
    have H := Lib.hid h; clear h
    have HE := Lib.hid he; clear he
    go_enter Try.func124, Try.ntmps124
    go_wp2_with fail
    refine bodyPost_end (results_none rfl _ _ _) rfl ?_
    exact ⟨rfl, H.out, Only.refl _ _⟩
theorem fail_short (R : RdV) (g : Nat) (w : World) (h : RdAt w g R) :
    Calls Try.prog 124 #[.pointer (some ⟨g, 0, none⟩), .int .i64 3] w fun e w' => e = .returned (.tuple #[]) ∧ RdAt w' g (R.fail 3) ∧ Only g w w' := fail_any R 3 g w h
theorem fail_form (R : RdV) (g : Nat) (w : World) (h : RdAt w g R) :
    Calls Try.prog 124 #[.pointer (some ⟨g, 0, none⟩), .int .i64 4] w fun e w' => e = .returned (.tuple #[]) ∧ RdAt w' g (R.fail 4) ∧ Only g w w' := fail_any R 4 g w h
set_option maxHeartbeats 4000000 in
theorem failed_any (R : RdV) (g : Nat) (w : World) (h : RdAt w g R) :
    Calls Try.prog 132 #[.pointer (some ⟨g, 0, none⟩)] w fun e w' => e = .returned (.bool (decide (R.e ≠ 0))) ∧ w = w' := by
  obtain ⟨f0, f1⟩ := h.cells
  obtain ⟨b, hb⟩ : ∃ b, decide (R.e ≠ 0) = b := ⟨_, rfl⟩
  have hb' : ((R.e : Int) != 0) = b := by
    rw [← hb]
    by_cases h0 : R.e = 0
    · simp [h0]
    · have : (R.e : Int) ≠ 0 := by omega
      simp [h0]
  rw [hb]
  clear h hb
  go_enter Try.func132, Try.ntmps132
  go_wp2_with fail
  go_ret
  exact ⟨rfl, rfl⟩
theorem take_str (l : List UInt8) (n : Nat) : (⟨l.toArray⟩ : ByteArray).extract 0 n = ⟨(l.take n).toArray⟩ ∧ (⟨l.toArray⟩ : ByteArray).extract n l.length = ⟨(l.drop n).toArray⟩ := by
  refine ⟨by rw [bs_extract]; simp, by rw [bs_extract]; simp⟩
set_option maxHeartbeats 8000000 in
theorem take_any (R : RdV) (n : Nat) (_ : n < 18446744073709551616) (g : Nat) (w : World) (h : RdAt w g R) :
    Calls Try.prog 120 #[.pointer (some ⟨g, 0, none⟩), .int .u64 (n : Int)] w fun e w' => e = .returned (.tuple #[.string ⟨(R.take n).1.toArray⟩, .bool (R.take n).2.1]) ∧ RdAt w' g (R.take n).2.2 ∧ Only g w w' := by
  have hfd := failed_any R g w h
  obtain ⟨e, s⟩ := R
  have hlen := h.len
  unfold maxLen at hlen
  simp only at hlen hfd
  obtain ⟨f0, f1⟩ := h.cells
  simp only at f0 f1
  have f3 := h.thawed 1
  unfold RdV.take
  by_cases he : e = 0
  · subst he
    have hfd : Calls Try.prog 132 #[.pointer (some ⟨g, 0, none⟩)] w fun e w' => e = .returned (.bool false) ∧ w = w' := hfd
    simp only [if_true]
    have Hfd := Lib.hid hfd; clear hfd
    have hsz := bs_size s
    have hwrap : IntKind.u64.wrap (s.length : Int) = (s.length : Int) := by rw [IntKind.wrap_u64]; omega
    by_cases hs : n ≤ s.length
    · rw [if_pos hs]
      obtain ⟨t1, t2⟩ := take_str s n
      have hs' : ¬ (s.length : Int) < (n : Int) := by omega
      have HH := Lib.hid (And.intro (h.rest (s.drop n) (by simp)) (Only.set g 1 w (.string ⟨(s.drop n).toArray⟩)))
      have H := Lib.hid h; clear h
      go_enter Try.func120, Try.ntmps120
      go_wp2_with ((with_reducible refine Hfd.out.mono ?_); rintro e w' ⟨rfl, rfl⟩)
      refine bodyPost_ret (v := .tuple #[.string ⟨(s.take n).toArray⟩, .bool true]) (by simp [results, Try.results120, go_sem]) rfl ?_
      exact ⟨rfl, HH.out.1, HH.out.2⟩
    · rw [if_neg hs]
      have hs' : (s.length : Int) < (n : Int) := by omega
      have hfl := fail_short ⟨0, s⟩ g w h
      have Hfl := Lib.hid hfl; clear hfl
      have H := Lib.hid h; clear h
      go_enter Try.func120, Try.ntmps120
      go_wp2_with (first
        | ((with_reducible refine Hfd.out.mono ?_); rintro e w' ⟨rfl, rfl⟩)
        | ((with_reducible refine Hfl.out.mono ?_); rintro e w2 ⟨rfl, h2⟩; have H2 := Lib.hid h2; clear h2))
      refine bodyPost_ret (v := .tuple #[Value.string ⟨#[]⟩, .bool false]) (by simp [results, Try.results120, go_sem]) rfl ?_
      exact ⟨rfl, H2.out⟩
  · have hfd : Calls Try.prog 132 #[.pointer (some ⟨g, 0, none⟩)] w fun e w' => e = .returned (.bool true) ∧ w = w' := by simpa [he] using hfd
    rw [if_neg he]
    have Hfd := Lib.hid hfd; clear hfd
    have H := Lib.hid h; clear h
    go_enter Try.func120, Try.ntmps120
    go_wp2_with ((with_reducible refine Hfd.out.mono ?_); rintro e w' ⟨rfl, rfl⟩)
    refine bodyPost_ret (v := .tuple #[Value.string ⟨#[]⟩, .bool false]) (by simp [results, Try.results120, go_sem]) rfl ?_
    exact ⟨rfl, H.out, Only.refl _ _⟩
theorem byte_head (t : List UInt8) : t.headD 0 = t.getD 0 0 := by cases t <;> rfl
set_option maxHeartbeats 8000000 in
theorem byte_any (R : RdV) (g : Nat) (w : World) (h : RdAt w g R) :
    Calls Try.prog 77 #[.pointer (some ⟨g, 0, none⟩)] w fun e w' => e = .returned (.int .u8 (R.byte.1.toNat : Int)) ∧ RdAt w' g R.byte.2 ∧ Only g w w' := by
  have ht : Calls Try.prog 120 #[.pointer (some ⟨g, 0, none⟩), .int .u64 1] w fun e w' => e = .returned (.tuple #[.string ⟨(R.take 1).1.toArray⟩, .bool (R.take 1).2.1]) ∧ RdAt w' g (R.take 1).2.2 ∧ Only g w w' := take_any R 1 (by omega) g w h
  clear h
  unfold RdV.byte
  have hcase : ((R.take 1).2.1 = true ∧ (R.take 1).1.length = 1) ∨ ((R.take 1).2.1 = false ∧ (R.take 1).1 = []) := by
    unfold RdV.take
    split
    · split
      · exact .inl ⟨rfl, by simp; omega⟩
      · exact .inr ⟨rfl, rfl⟩
    · exact .inr ⟨rfl, rfl⟩
  generalize R.take 1 = X at *
  obtain ⟨t, b, R2⟩ := X
  simp only at ht hcase ⊢
  rcases hcase with ⟨rfl, hl⟩ | ⟨rfl, rfl⟩
  · match t, hl with
    | [x], _ =>
      have Ht := Lib.hid ht; clear ht
      go_enter Try.func77, Try.ntmps77
      go_wp2_with ((with_reducible refine Ht.out.mono ?_); rintro e w2 ⟨rfl, h2⟩; have H2 := Lib.hid h2; clear h2)
      go_ret
      exact ⟨rfl, H2.out⟩
  · have Ht := Lib.hid ht; clear ht
    go_enter Try.func77, Try.ntmps77
    go_wp2_with ((with_reducible refine Ht.out.mono ?_); rintro e w2 ⟨rfl, h2⟩; have H2 := Lib.hid h2; clear h2)
    go_ret
    exact ⟨rfl, H2.out⟩
set_option maxHeartbeats 4000000 in
theorem bad_any (R : RdV) (g : Nat) (w : World) (h : RdAt w g R) :
    Calls Try.prog 123 #[.pointer (some ⟨g, 0, none⟩)] w fun e w' => e = .returned (.tuple #[]) ∧ RdAt w' g (R.fail 4) ∧ Only g w w' := by
  have Hfl := Lib.hid (fail_form R g w h); clear h
  go_enter Try.func123, Try.ntmps123
  go_wp2_with ((with_reducible refine Hfl.out.mono ?_); rintro e w2 ⟨rfl, h2⟩; have H2 := Lib.hid h2; clear h2)
  refine bodyPost_end (results_none rfl _ _ _) rfl ?_
  exact ⟨rfl, H2.out⟩
set_option maxHeartbeats 4000000 in
theorem err_any (R : RdV) (g : Nat) (w : World) (h : RdAt w g R) :
    Calls Try.prog 83 #[.pointer (some ⟨g, 0, none⟩)] w fun e w' => e = .returned (.int .i64 (R.e : Int)) ∧ w = w' := by
  obtain ⟨f0, f1⟩ := h.cells
  clear h
  go_enter Try.func83, Try.ntmps83
  go_wp2_with fail
  go_ret
  exact ⟨rfl, rfl⟩
def RdV.end_ (R : RdV) : RdV := if R.s = [] then R else R.fail 4
set_option maxHeartbeats 4000000 in
theorem end_any (R : RdV) (g : Nat) (w : World) (h : RdAt w g R) :
    Calls Try.prog 84 #[.pointer (some ⟨g, 0, none⟩)] w fun e w' => e = .returned (.int .i64 (R.end_.e : Int)) ∧ RdAt w' g R.end_ ∧ Only g w w' := by
  have hsz := bs_size R.s
  unfold RdV.end_
  by_cases hs : R.s = []
  · rw [if_pos hs]
    have hl : R.s.length = 0 := by rw [hs]; rfl
    obtain ⟨f0, f1⟩ := h.cells
    have H := Lib.hid h; clear h
    rw [hl] at hsz
    have hlt : ¬ (0 : Int) < 0 := by omega
    have Hs := Lib.hid hs; clear hs hl
    go_enter Try.func84, Try.ntmps84
    go_wp2_with fail
    go_ret
    exact ⟨rfl, H.out, Only.refl _ _⟩
  · rw [if_neg hs]
    have hl : 0 < R.s.length := List.length_pos_iff.2 hs
    have hl' : (0 : Int) < (R.s.length : Int) := by omega
    obtain ⟨f0, f1⟩ := h.cells
    have Hfl := Lib.hid (fail_form R g w h)
    clear h hs hl
    go_enter Try.func84, Try.ntmps84
    go_wp2_with ((with_reducible refine Hfl.out.mono ?_); rintro e w2 ⟨rfl, h2⟩; have H2 := Lib.hid h2; obtain ⟨k0, k1⟩ := h2.1.cells; clear h2 f0 f1)
    go_ret
    exact ⟨rfl, H2.out⟩
end Go.Proofs.Ytkngadbeflepoaa
