/- The plain laws of the checksum: a step is linear over bits and turns no number but nought into nought; bytes that are turned; texts over one another; texts joined. No condition. -/
import Derived.Test.YtljolmidnckciaaDoorCrcB
namespace Go.Proofs.YtljolmidnckciaaDoor.Crc

theorem st_eq (x : BitVec 64) : st x = (x >>> 1) ^^^ (if x.getLsbD 0 then poly else 0#64) := by
  have e : (x &&& 1#64 == 1#64) = x.getLsbD 0 := by
    rw [Bool.eq_iff_iff, beq_iff_eq]
    constructor
    · intro h
      have := congrArg (fun x => x.getLsbD 0) h
      simpa using this
    · intro h
      apply BitVec.eq_of_getLsbD_eq
      intro i hi
      rw [BitVec.getLsbD_and]
      by_cases e : i = 0
      · subst e; rw [h]; rfl
      · simp [e]
  unfold st
  rw [e]
  cases x.getLsbD 0 <;> simp

theorem st_xor (x y : BitVec 64) : st (x ^^^ y) = st x ^^^ st y := by
  simp only [st_eq, BitVec.getLsbD_xor]
  apply BitVec.eq_of_getLsbD_eq
  intro i _
  cases x.getLsbD 0 <;> cases y.getLsbD 0 <;> simp only [BitVec.getLsbD_xor, BitVec.getLsbD_ushiftRight, Bool.xor_false, Bool.xor_true, Bool.not_true, Bool.not_false, Bool.false_eq_true, if_true, if_false, BitVec.getLsbD_zero] <;>
    cases x.getLsbD (1 + i) <;> cases y.getLsbD (1 + i) <;> cases poly.getLsbD i <;> rfl

theorem st_zero : st 0#64 = 0#64 := by decide

theorem st_ne (x : BitVec 64) (h : st x = 0#64) : x = 0#64 := by
  rw [st_eq] at h
  cases hx : x.getLsbD 0 with
  | true =>
    exfalso
    have := congrArg (fun x => x.getLsbD 63) h
    rw [hx] at this
    simp [poly] at this
  | false =>
    rw [hx] at h
    apply BitVec.eq_of_getLsbD_eq
    intro i hi
    cases i with
    | zero => simpa using hx
    | succ i =>
      have := congrArg (fun x => x.getLsbD i) h
      simp [Nat.add_comm 1 i] at this
      simp [this]

theorem sts_xor (k : Nat) (x y : BitVec 64) : sts k (x ^^^ y) = sts k x ^^^ sts k y := by
  induction k with
  | zero => rfl
  | succ k ih => simp only [sts, ih, st_xor]
theorem sts_zero (k : Nat) : sts k 0#64 = 0#64 := by
  induction k with
  | zero => rfl
  | succ k ih => simp only [sts, ih, st_zero]
theorem sts_ne (k : Nat) (x : BitVec 64) (h : sts k x = 0#64) : x = 0#64 := by
  induction k with
  | zero => exact h
  | succ k ih => exact ih (st_ne _ h)
theorem sts_add (j k : Nat) (x : BitVec 64) : sts (j + k) x = sts j (sts k x) := by
  induction j with
  | zero => simp [sts]
  | succ j ih => rw [show j + 1 + k = (j + k) + 1 from by omega]; simp only [sts, ih]

theorem byte_xor' (c d : UInt8) : byte (c ^^^ d) = byte c ^^^ byte d := by
  apply BitVec.eq_of_toNat_eq
  have := c.toNat_lt
  have := d.toNat_lt
  simp only [byte, BitVec.toNat_ofNat, BitVec.toNat_xor, UInt8.toNat_xor]
  rw [Nat.mod_eq_of_lt (by omega : c.toNat < 2 ^ 64), Nat.mod_eq_of_lt (by omega : d.toNat < 2 ^ 64)]
  exact Nat.mod_eq_of_lt (Nat.lt_of_lt_of_le (Nat.xor_lt_two_pow (n := 8) c.toNat_lt d.toNat_lt) (by omega))

theorem more_append (n : BitVec 64) (l r : List UInt8) : more n (l ++ r) = more (more n l) r := by simp [more]
theorem more_cons (n : BitVec 64) (c : UInt8) (r : List UInt8) : more n (c :: r) = more (sts 8 (n ^^^ byte c)) r := rfl
/-- What is put over the number ahead of a text comes out behind it, as many steps on. -/
theorem more_state (l : List UInt8) : ∀ s t : BitVec 64, more (s ^^^ t) l = more s l ^^^ sts (8 * l.length) t := by
  induction l with
  | nil => intro s t; rfl
  | cons c r ih =>
    intro s t
    rw [more_cons, more_cons, show s ^^^ t ^^^ byte c = (s ^^^ byte c) ^^^ t from by rw [BitVec.xor_assoc, BitVec.xor_comm t, ← BitVec.xor_assoc], sts_xor, ih, ← sts_add]
    rw [show 8 * (c :: r).length = 8 * r.length + 8 from by simp [Nat.mul_add]]

theorem more_over (l r : List UInt8) : l.length = r.length → ∀ n m : BitVec 64, more (n ^^^ m) (List.zipWith (· ^^^ ·) l r) = more n l ^^^ more m r := by
  induction l generalizing r with
  | nil => intro h n m; cases r with
    | nil => rfl
    | cons => simp at h
  | cons c l ih =>
    intro h n m
    cases r with
    | nil => simp at h
    | cons d r =>
      simp only [List.zipWith_cons_cons, more_cons]
      rw [byte_xor', show n ^^^ m ^^^ (byte c ^^^ byte d) = (n ^^^ byte c) ^^^ (m ^^^ byte d) from by
        rw [BitVec.xor_assoc, BitVec.xor_assoc]; congr 1
        rw [← BitVec.xor_assoc, BitVec.xor_comm m, BitVec.xor_assoc], sts_xor]
      exact ih r (by simpa using h) _ _

/-! ### Bytes of which bits are turned -/

theorem st_pow (i : Nat) (h : i < 63) : st (1#64 <<< (i + 1)) = 1#64 <<< i := by
  have : ∀ i : Fin 63, st (1#64 <<< (i.val + 1)) = 1#64 <<< i.val := by decide +kernel
  exact this ⟨i, h⟩
theorem sts_pow (k : Nat) (h : k < 64) : sts k (1#64 <<< k) = 1#64 := by
  induction k with
  | zero => rfl
  | succ k ih =>
    have e : sts (k + 1) (1#64 <<< (k + 1)) = sts k (st (1#64 <<< (k + 1))) := sts_add k 1 _
    rw [e, st_pow k (by omega), ih (by omega)]

theorem byte_pow (r : Nat) (h : r < 8) : byte (UInt8.ofNat (2 ^ r)) = 1#64 <<< r := by
  have : r = 0 ∨ r = 1 ∨ r = 2 ∨ r = 3 ∨ r = 4 ∨ r = 5 ∨ r = 6 ∨ r = 7 := by omega
  rcases this with h | h | h | h | h | h | h | h <;> subst h <;> decide

theorem more_flip (n : BitVec 64) (l : List UInt8) (p : Nat) (hp : p < 8 * l.length) : more n (flip l p) = more n l ^^^ sts (8 * l.length - p) 1#64 := by
  have hq : p / 8 < l.length := by omega
  have hr : p % 8 < 8 := by omega
  have e0 : l = l.take (p / 8) ++ l[p / 8] :: l.drop (p / 8 + 1) := by
    rw [← List.drop_eq_getElem_cons hq, List.take_append_drop]
  have e1 : flip l p = l.take (p / 8) ++ (l[p / 8] ^^^ UInt8.ofNat (2 ^ (p % 8))) :: l.drop (p / 8 + 1) := by
    unfold flip
    rw [List.set_eq_take_append_cons_drop, if_pos hq]
    congr 2
    rw [List.getD_eq_getElem?_getD, List.getElem?_eq_getElem hq, Option.getD_some]
  have hlen : (l.drop (p / 8 + 1)).length = l.length - (p / 8 + 1) := by simp
  rw [e1]
  conv => rhs; rw [e0]
  rw [more_append, more_append, more_cons, more_cons, byte_xor', ← BitVec.xor_assoc, sts_xor, more_state, byte_pow _ hr, ← sts_add]
  congr 1
  have h8 : sts (p % 8) (1#64 <<< (p % 8)) = 1#64 := sts_pow _ (by omega)
  have : 8 * (l.drop (p / 8 + 1)).length + 8 = (8 * l.length - p) + p % 8 := by rw [hlen]; omega
  rw [this, sts_add, h8]
  congr 2
  simp [List.take_append_drop]

/-- The bits of m below k, as a number. -/
def acc (m : BitVec 64) : Nat → BitVec 64
  | 0 => 0#64
  | k + 1 => if m.getLsbD k then acc m k ^^^ (1#64 <<< k) else acc m k

theorem acc_bit (m : BitVec 64) (k : Nat) (hk : k ≤ 64) (i : Nat) : (acc m k).getLsbD i = (decide (i < k) && m.getLsbD i) := by
  induction k with
  | zero => simp [acc]
  | succ k ih =>
    have ih := ih (by omega)
    simp only [acc]
    by_cases h : m.getLsbD k
    · simp only [h, if_true, BitVec.getLsbD_xor, ih, BitVec.getLsbD_shiftLeft, BitVec.getLsbD_one]
      by_cases e : i = k
      · subst e; simp [h]; omega
      · by_cases e' : i < k
        · simp [e', show i < k + 1 from by omega]
        · have : i - k ≠ 0 := by omega
          simp [e', this, show ¬ i < k + 1 from by omega]
    · have h' : m.getLsbD k = false := by simpa using h
      simp only [h', Bool.false_eq_true, if_false]
      rw [ih]
      by_cases e : i = k
      · subst e; simp [h']
      · have : (i < k + 1) = (i < k) := by simp; omega
        simp [this]

theorem acc_chg (m : BitVec 64) (k : Nat) (hk : k ≤ 64) : (acc m k != 0#64) = chg m k := by
  induction k with
  | zero => rfl
  | succ k ih =>
    have ih := ih (by omega)
    simp only [chg]
    by_cases h : m.getLsbD k
    · simp only [h, if_true]
      rw [bne_iff_ne]
      intro e
      have := acc_bit m (k + 1) hk k
      rw [e] at this
      simp [h] at this
    · simp only [acc, h]; exact ih

theorem more_fl (n : BitVec 64) (a : List UInt8) (m : BitVec 64) (bit k : Nat) (hk : k ≤ 64) (hb : bit + k ≤ 8 * a.length) :
    more n (fl a m bit k) = more n a ^^^ sts (8 * a.length - bit) (acc m k) := by
  induction k with
  | zero => simp [fl, acc, sts_zero]
  | succ k ih =>
    have ih := ih (by omega) (by omega)
    simp only [fl, acc]
    by_cases h : m.getLsbD k
    · simp only [h, if_true]
      rw [more_flip _ _ _ (by rw [fl_length]; omega), ih, fl_length, sts_xor, BitVec.xor_assoc]
      congr 2
      rw [show 8 * a.length - bit = (8 * a.length - (bit + k)) + k from by omega, sts_add, sts_pow _ (by omega)]
    · simp only [h]; exact ih

theorem not_inj {x y : BitVec 64} : (~~~ x = ~~~ y) ↔ x = y := by
  constructor
  · intro h
    have := congrArg (fun x => ~~~ x) h
    simpa using this
  · intro h; rw [h]

/-- A text of which some of up to 64 bits side by side are turned has another checksum. -/
theorem finds (a : List UInt8) (m : BitVec 64) (bit k : Nat) (hk : k ≤ 64) (hb : bit + k ≤ 8 * a.length) :
    (((sum 0#64 (fl a m bit k)).toNat : Int) != ((sum 0#64 a).toNat : Int)) = chg m k := by
  rw [← acc_chg m k hk, bne, eq_bv, bne]
  congr 1
  rw [Bool.eq_iff_iff, beq_iff_eq, beq_iff_eq]
  unfold sum
  rw [not_inj, more_fl _ _ _ _ _ hk hb]
  constructor
  · intro h
    have h2 : sts (8 * a.length - bit) (acc m k) = 0#64 := by
      have := congrArg (fun x => more (~~~ 0#64) a ^^^ x) h
      simpa [← BitVec.xor_assoc] using this
    exact sts_ne _ _ h2
  · intro h
    rw [h, sts_zero]; simp

theorem zip_zero (l : List UInt8) : List.zipWith (· ^^^ ·) l (List.replicate l.length 0) = l := by
  induction l with
  | nil => rfl
  | cons c l ih => simp [List.replicate_succ, ih]

/-- Three texts of one length. -/
theorem over3 (A B : List UInt8) (h : A.length = B.length) :
    sum 0#64 A ^^^ sum 0#64 B ^^^ sum 0#64 (List.replicate A.length 0) = sum 0#64 (List.zipWith (· ^^^ ·) A B) := by
  unfold sum
  have h1 := more_over A B h (~~~ 0#64) (~~~ 0#64)
  have h2 := more_over (List.zipWith (· ^^^ ·) A B) (List.replicate A.length 0) (by simp [h]) 0#64 (~~~ 0#64)
  have hz := zip_zero (List.zipWith (· ^^^ ·) A B)
  rw [List.length_zipWith, ← h, Nat.min_self] at hz
  rw [hz] at h2
  rw [show (~~~ 0#64) ^^^ (~~~ 0#64) = (0#64 : BitVec 64) from by decide] at h1
  rw [h1] at h2
  rw [show (0#64 : BitVec 64) ^^^ (~~~ 0#64) = ~~~ 0#64 from by decide] at h2
  rw [h2]
  apply BitVec.eq_of_getLsbD_eq
  intro i hi
  simp only [BitVec.getLsbD_xor, BitVec.getLsbD_not, hi, decide_true, Bool.true_and]
  cases (more (~~~ 0#64) A).getLsbD i <;> cases (more (~~~ 0#64) B).getLsbD i <;> cases (more (~~~ 0#64) (List.replicate A.length 0)).getLsbD i <;> rfl

theorem ov_all (A B : List UInt8) (n : Nat) (hA : n ≤ A.length) (hB : n ≤ B.length) : ov A B n n = List.zipWith (· ^^^ ·) (A.take n) (B.take n) := by
  apply List.ext_getElem
  · simp [ov]; omega
  · intro j h1 h2
    have hj : j < n := by simpa [ov] using h1
    simp only [ov, List.getElem_map, List.getElem_range, hj, if_true, List.getElem_zipWith, List.getElem_take]
    rw [List.getD_eq_getElem?_getD, List.getD_eq_getElem?_getD, List.getElem?_eq_getElem (by omega), List.getElem?_eq_getElem (by omega), Option.getD_some, Option.getD_some]

theorem over_law (A B : List UInt8) (n : Nat) (hA : n ≤ A.length) (hB : n ≤ B.length) :
    sum 0#64 (A.take n) ^^^ sum 0#64 (B.take n) ^^^ sum 0#64 (List.replicate n 0) = sum 0#64 (ov A B n n) := by
  have hl : (A.take n).length = n := by simp; omega
  have h := over3 (A.take n) (B.take n) (by simp; omega)
  rw [hl] at h
  rw [ov_all A B n hA hB, h]
end Go.Proofs.YtljolmidnckciaaDoor.Crc
