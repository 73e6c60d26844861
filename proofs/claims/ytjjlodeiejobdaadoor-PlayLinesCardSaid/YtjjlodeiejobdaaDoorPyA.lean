/- Play (plain): texts, numbers, pieces of a line. Condition: as each theorem says. -/
import Derived.Lib.ItoaMem
import Derived.Lib.ParseUintOr
import Derived.Lib.ParseIntBTie
import Derived.Lib.SplitLaws
import Derived.Lib.Join
namespace Go.Proofs.YtjjlodeiejobdaaDoor
abbrev Bs := List UInt8
/-! ### Texts -/
def itsB (c : UInt8) : Bool := (decide (97 ≤ c.toNat) && decide (c.toNat ≤ 122)) || (decide (65 ≤ c.toNat) && decide (c.toNat ≤ 90)) || (decide (48 ≤ c.toNat) && decide (c.toNat ≤ 57)) || decide (c.toNat = 95)
def hxB (n : Nat) : UInt8 := if n < 10 then UInt8.ofNat (48 + n) else UInt8.ofNat (87 + n)
def quo1 (c : UInt8) : Bs := if itsB c then [c] else [37, hxB (c.toNat / 16), hxB (c.toNat % 16)]
def quoL (l : Bs) : Bs := if l = [] then [45] else l.flatMap quo1
def hexV (c : UInt8) : Option Nat := if 48 ≤ c.toNat ∧ c.toNat ≤ 57 then some (c.toNat - 48) else if 97 ≤ c.toNat ∧ c.toNat ≤ 102 then some (c.toNat - 87) else if 65 ≤ c.toNat ∧ c.toNat ≤ 70 then some (c.toNat - 55) else none
def decL : Bs → Option Bs
  | [] => some []
  | c :: r => if c = 37 then
      match r with
      | a :: b :: r' => match hexV a, hexV b with
        | some x, some y => (decL r').map (UInt8.ofNat (16 * x + y) :: ·)
        | _, _ => none
      | _ => none
    else (decL r).map (c :: ·)
def unqL (s : Bs) : Option Bs := if s = [45] then some [] else match decL s with
  | some b => if quoL b = s then some b else none
  | none => none
theorem hex_fin : ∀ n : Fin 16, hexV (hxB n.val) = some n.val := by decide
theorem quo_fin : ∀ c : Fin 256, itsB (UInt8.ofNat c.val) = true → UInt8.ofNat c.val ≠ 37 ∧ UInt8.ofNat c.val ≠ 45 ∧ UInt8.ofNat c.val ≠ 32 ∧ UInt8.ofNat c.val ≠ 10 := by decide +kernel
theorem its_ne {c : UInt8} (h : itsB c = true) : c ≠ 37 ∧ c ≠ 45 ∧ c ≠ 32 ∧ c ≠ 10 := by
  have := quo_fin ⟨c.toNat, c.toNat_lt⟩
  simp only [UInt8.ofNat_toNat] at this
  exact this h
theorem hx_fin : ∀ n : Fin 16, hxB n.val ≠ 32 ∧ hxB n.val ≠ 10 := by decide
theorem dec_quo1 (c : UInt8) (r : Bs) : decL (quo1 c ++ r) = (decL r).map (c :: ·) := by
  unfold quo1
  cases h : itsB c with
  | true =>
    simp only [if_true, List.singleton_append]
    conv => lhs; unfold decL
    simp only [if_neg (its_ne h).1]
  | false =>
    have h1 := hex_fin ⟨c.toNat / 16, by have := c.toNat_lt; omega⟩
    have h2 := hex_fin ⟨c.toNat % 16, Nat.mod_lt _ (by decide)⟩
    simp only at h1 h2
    simp only [Bool.false_eq_true, if_false, List.cons_append, List.nil_append]
    rw [decL, if_pos rfl]
    simp only [h1, h2, show 16 * (c.toNat / 16) + c.toNat % 16 = c.toNat by omega, UInt8.ofNat_toNat]
theorem dec_quo : ∀ l : Bs, decL (l.flatMap quo1) = some l
  | [] => rfl
  | c :: r => by rw [List.flatMap_cons, dec_quo1, dec_quo r]; rfl
theorem quo1_ne (c : UInt8) : quo1 c ≠ [] := by unfold quo1; split <;> simp
theorem quo1_45 (c : UInt8) (r : Bs) : quo1 c ++ r ≠ [45] := by
  unfold quo1
  cases h : itsB c with
  | true => simp only [if_true, List.singleton_append]; intro e; exact (its_ne h).2.1 (List.cons.inj e).1
  | false => simp
/-- A text is read as itself, and what is read is written as it stood. -/
theorem unq_iff (s b : Bs) : unqL s = some b ↔ s = quoL b := by
  unfold unqL
  constructor
  · intro h
    split at h
    · next e => cases h; rw [e]; rfl
    · split at h
      · next b' hb =>
        split at h
        · next e => cases h; exact e.symm
        · cases h
      · cases h
  · rintro rfl
    by_cases hb : b = []
    · subst hb
      rfl
    · have e : quoL b = b.flatMap quo1 := by unfold quoL; rw [if_neg hb]
      have hn : quoL b ≠ [45] := by
        rw [e]
        cases b with
        | nil => exact absurd rfl hb
        | cons c r => rw [List.flatMap_cons]; exact quo1_45 c _
      rw [if_neg hn, e, dec_quo]
      simp only [← e, if_true]
theorem quo_inj {a b : Bs} (h : quoL a = quoL b) : a = b := Option.some.inj (((unq_iff (quoL a) a).2 rfl).symm.trans ((unq_iff (quoL a) b).2 h))
theorem quo1_clean (c : UInt8) : ∀ x ∈ quo1 c, x ≠ 32 ∧ x ≠ 10 := by
  unfold quo1
  cases h : itsB c with
  | true => intro x hx; simp at hx; subst hx; exact (its_ne h).2.2
  | false =>
    intro x hx
    simp only [Bool.false_eq_true, if_false, List.mem_cons, List.not_mem_nil, or_false] at hx
    rcases hx with rfl | rfl | rfl
    · decide
    · exact hx_fin ⟨c.toNat / 16, by have := c.toNat_lt; omega⟩
    · exact hx_fin ⟨c.toNat % 16, Nat.mod_lt _ (by decide)⟩
theorem quo_clean (l : Bs) : ∀ x ∈ quoL l, x ≠ 32 ∧ x ≠ 10 := by
  unfold quoL
  split
  · intro x hx; simp at hx; subst hx; decide
  · intro x hx
    obtain ⟨c, _, h⟩ := List.mem_flatMap.1 hx
    exact quo1_clean c x h
/-! ### Numbers -/
def smallL (t : Bs) : Option Nat := match Lib.parseUintB 8 t with
  | .ok u => if Lib.decDigits u = t then some u else none
  | _ => none
def numL (t : Bs) : Option Int := match Lib.parseIntB 64 t with
  | .ok v => if Lib.itoa v = t then some v else none
  | _ => none
theorem digit_nat {d : Nat} (h : d < 10) : (UInt8.ofNat (48 + d)).toNat = 48 + d := by simp; omega
theorem parse_step {M acc d : Nat} (r : Bs) (hd : d < 10) (h : acc * 10 + d ≤ M) (hM : M < 18446744073709551616) : Lib.parseUintM M acc (UInt8.ofNat (48 + d) :: r) = Lib.parseUintM M (acc * 10 + d) r := by
  rw [Lib.parseUintM, digit_nat hd, if_pos (by omega), if_neg (by omega), show 48 + d - 48 = d by omega, if_neg (by omega)]
theorem parse_dec {M : Nat} (hM : M < 18446744073709551616) (r : Bs) : ∀ (k u : Nat), u ≤ k → u ≤ M → Lib.parseUintM M 0 (Lib.decDigits u ++ r) = Lib.parseUintM M u r := by
  intro k
  induction k generalizing r with
  | zero =>
    intro u hu _
    obtain rfl : u = 0 := by omega
    rw [Lib.decDigits, dif_pos (by decide), List.singleton_append, parse_step r (by decide) (by omega) hM]
  | succ k ih =>
    intro u hu h
    rw [Lib.decDigits]
    by_cases h10 : u < 10
    · rw [dif_pos h10, List.singleton_append, parse_step r h10 (by omega) hM, Nat.zero_mul, Nat.zero_add]
    · rw [dif_neg h10, List.append_assoc, ih _ (u / 10) (by omega) (by omega), List.singleton_append, parse_step r (Nat.mod_lt _ (by decide)) (by omega) hM]
      congr 1
      omega
theorem dec_ne (u : Nat) : Lib.decDigits u ≠ [] := by rw [Lib.decDigits]; split <;> simp
theorem dec_digits : ∀ (k u : Nat), u ≤ k → ∀ x ∈ Lib.decDigits u, 48 ≤ x.toNat ∧ x.toNat ≤ 57 := by
  intro k
  induction k with
  | zero =>
    intro u hu x hx
    obtain rfl : u = 0 := by omega
    rw [Lib.decDigits, dif_pos (by decide)] at hx
    simp at hx
    subst hx
    decide
  | succ k ih =>
    intro u hu x hx
    rw [Lib.decDigits] at hx
    split at hx
    · next h => simp only [List.mem_singleton] at hx; subst hx; rw [digit_nat h]; omega
    · rcases List.mem_append.1 hx with h | h
      · exact ih (u / 10) (by omega) x h
      · simp only [List.mem_singleton] at h; subst h; rw [digit_nat (Nat.mod_lt _ (by decide))]; omega
theorem parse_uint {B u : Nat} (hB : 2 ^ B ≤ 18446744073709551616) (hu : u < 2 ^ B) : Lib.parseUintB B (Lib.decDigits u) = .ok u := by
  unfold Lib.parseUintB
  rw [if_neg (dec_ne u)]
  have := parse_dec (M := 2 ^ B - 1) (by omega) [] u u (Nat.le_refl _) (by omega)
  rw [List.append_nil] at this
  rw [this, Lib.parseUintM]
theorem small_iff (t : Bs) (v : Nat) : smallL t = some v ↔ v < 256 ∧ t = Lib.decDigits v := by
  unfold smallL
  constructor
  · intro h
    split at h
    · next u hu =>
      split at h
      · next e => cases h; exact ⟨by have := Lib.parseUintB_le hu; omega, e.symm⟩
      · cases h
    · cases h
  · rintro ⟨hv, rfl⟩
    rw [parse_uint (by decide) (by omega)]
    simp
theorem dec_inj {a b : Nat} (ha : a < 18446744073709551616) (hb : b < 18446744073709551616) (h : Lib.decDigits a = Lib.decDigits b) : a = b := by
  have h1 := parse_uint (B := 64) (u := a) (by decide) (by omega)
  rw [h, parse_uint (B := 64) (by decide) (by omega)] at h1
  injection h1 with h1
  exact h1.symm
theorem parse_int (n : Int) (h0 : -9223372036854775808 ≤ n) (h1 : n ≤ 9223372036854775807) : Lib.parseIntB 64 (Lib.itoa n) = .ok n := by
  unfold Lib.itoa
  split
  · next h =>
    unfold Lib.parseIntB
    simp only [show (45 : UInt8).toNat = 45 from rfl, or_true, if_true, not_true, false_and, true_and]
    rw [parse_uint (by decide) (by omega)]
    simp only
    rw [if_neg (by simp), if_neg (by omega)]
    congr 1
    omega
  · next h =>
    have hd := dec_digits n.toNat n.toNat (Nat.le_refl _)
    cases hl : Lib.decDigits n.toNat with
    | nil => exact absurd hl (dec_ne _)
    | cons c r =>
      have hc := hd c (by rw [hl]; exact List.mem_cons_self ..)
      unfold Lib.parseIntB
      simp only
      rw [if_neg (by omega), ← hl, parse_uint (by decide) (by omega)]
      simp only
      rw [if_neg (by omega), if_neg (by omega), if_neg (by omega)]
      congr 1
      omega
theorem num_iff (t : Bs) (v : Int) : numL t = some v ↔ (-9223372036854775808 ≤ v ∧ v ≤ 9223372036854775807) ∧ t = Lib.itoa v := by
  unfold numL
  constructor
  · intro h
    split at h
    · next u hu =>
      split at h
      · next e => cases h; exact ⟨by have := Lib.parseIntB_bounds hu; omega, e.symm⟩
      · cases h
    · cases h
  · rintro ⟨hv, rfl⟩
    rw [parse_int v hv.1 hv.2]
    simp
theorem itoa_clean (n : Int) : ∀ x ∈ Lib.itoa n, x ≠ 32 ∧ x ≠ 10 := by
  have hd : ∀ u : Nat, ∀ x ∈ Lib.decDigits u, x ≠ 32 ∧ x ≠ 10 := fun u x hx => by
    have := dec_digits u u (Nat.le_refl _) x hx
    constructor <;> (rintro rfl; simp at this)
  unfold Lib.itoa
  split
  · intro x hx
    rcases List.mem_cons.1 hx with rfl | h
    · decide
    · exact hd _ x h
  · exact hd _
theorem itoa_inj {a b : Int} (ha : -9223372036854775808 ≤ a ∧ a ≤ 9223372036854775807) (hb : -9223372036854775808 ≤ b ∧ b ≤ 9223372036854775807) (h : Lib.itoa a = Lib.itoa b) : a = b := Option.some.inj (((num_iff _ a).2 ⟨ha, rfl⟩).symm.trans ((num_iff _ b).2 ⟨hb, h⟩))
/-! ### Pieces -/
def splL (c : UInt8) : Bs → List Bs
  | [] => [[]]
  | x :: r => if x = c then [] :: splL c r else match splL c r with
    | [] => [[x]]
    | h :: t => (x :: h) :: t
def joiL (c : UInt8) : List Bs → Bs
  | [] => []
  | [x] => x
  | x :: y :: r => x ++ c :: joiL c (y :: r)
theorem spl_ne (c : UInt8) (s : Bs) : splL c s ≠ [] := by
  cases s with
  | nil => simp [splL]
  | cons x r => unfold splL; split; simp; split <;> simp
theorem spl_app {c : UInt8} : ∀ {p : Bs}, (∀ x ∈ p, x ≠ c) → ∀ r : Bs, splL c (p ++ c :: r) = p :: splL c r
  | [], _, r => by rw [List.nil_append, splL, if_pos rfl]
  | x :: p, h, r => by
    rw [List.cons_append, splL, if_neg (h x (List.mem_cons_self ..)), spl_app (fun y hy => h y (List.mem_cons_of_mem _ hy)) r]
theorem spl_one {c : UInt8} : ∀ {p : Bs}, (∀ x ∈ p, x ≠ c) → splL c p = [p]
  | [], _ => rfl
  | x :: p, h => by rw [splL, if_neg (h x (List.mem_cons_self ..)), spl_one (fun y hy => h y (List.mem_cons_of_mem _ hy))]
theorem spl_joi {c : UInt8} : ∀ {l : List Bs}, l ≠ [] → (∀ p ∈ l, ∀ x ∈ p, x ≠ c) → splL c (joiL c l) = l
  | [], h, _ => absurd rfl h
  | [x], _, h => spl_one (h x (List.mem_cons_self ..))
  | x :: y :: r, _, h => by
    rw [joiL, spl_app (h x (List.mem_cons_self ..)), spl_joi (by simp) (fun p hp => h p (List.mem_cons_of_mem _ hp))]
theorem joi_cons {c : UInt8} (x : Bs) {l : List Bs} (h : l ≠ []) : joiL c (x :: l) = x ++ c :: joiL c l := by
  cases l with
  | nil => exact absurd rfl h
  | cons y r => rfl
theorem joi_spl (c : UInt8) : ∀ s : Bs, joiL c (splL c s) = s
  | [] => rfl
  | x :: r => by
    have ih := joi_spl c r
    unfold splL
    split
    · next e => rw [joi_cons _ (spl_ne c r), ih, e]; rfl
    · cases h : splL c r with
      | nil => exact absurd h (spl_ne c r)
      | cons a t =>
        rw [h] at ih
        simp only
        cases t with
        | nil => simp only [joiL] at ih ⊢; rw [ih]
        | cons b t => simp only [joiL, List.cons_append] at ih ⊢; rw [ih]
theorem spl_piece (c : UInt8) : ∀ s : Bs, ∀ p ∈ splL c s, ∀ x ∈ p, x ≠ c
  | [], p, hp, x, hx => by simp [splL] at hp; subst hp; cases hx
  | y :: r, p, hp, x, hx => by
    have ih := spl_piece c r
    unfold splL at hp
    split at hp
    · rcases List.mem_cons.1 hp with rfl | h
      · cases hx
      · exact ih p h x hx
    · next hy =>
      cases h : splL c r with
      | nil => exact absurd h (spl_ne c r)
      | cons a t =>
        rw [h] at hp ih
        simp only at hp
        rcases List.mem_cons.1 hp with rfl | h2
        · rcases List.mem_cons.1 hx with rfl | h3
          · exact hy
          · exact ih a (List.mem_cons_self ..) x h3
        · exact ih p (List.mem_cons_of_mem _ h2) x hx
theorem lib_join (c : UInt8) : ∀ l : List Bs, Lib.join l [c] = joiL c l
  | [] => rfl
  | [x] => Lib.join_one x [c]
  | x :: y :: r => by
    rw [joiL, ← lib_join c (y :: r), Lib.join_cons, Lib.join_cons, Lib.joinTail]
    simp [Lib.joinTail]
theorem lib_split (c : UInt8) : ∀ s : Bs, Lib.split s [c] = splL c s
  | [] => by unfold Lib.split; rw [Lib.count_one]; rfl
  | b :: l => by
    have ih := lib_split c l
    unfold splL
    by_cases h : b = c
    · subst h
      rw [if_pos rfl, ← ih]
      unfold Lib.split
      rw [Lib.count_cons_eq, Nat.add_comm, Lib.splitK]
      have e : Lib.index (b :: l) [b] = 0 := by simp [Lib.index, List.isPrefixOf]
      rw [e, if_neg (by decide)]
      simp
    · rw [if_neg h, ← ih]
      unfold Lib.split
      rw [Lib.count_cons_ne b c l h]
      have e : Lib.index (b :: l) [c] = if Lib.index l [c] == -1 then -1 else Lib.index l [c] + 1 := by
        have : ([c] : Bs).isPrefixOf (b :: l) = false := by simp [List.isPrefixOf, Ne.symm h]
        rw [Lib.index, this]
        rfl
      cases hk : Lib.count l [c] with
      | zero => rfl
      | succ k =>
        have hn : ¬ (Lib.index l [c] == -1) = true := fun q => by
          rw [Lib.count_miss (beq_iff_eq.1 q)] at hk
          cases hk
        have hge := Lib.index_ge l [c]
        have hn' : Lib.index l [c] ≠ -1 := fun q => hn (beq_iff_eq.2 q)
        rw [Lib.splitK, Lib.splitK, e, if_neg hn, if_neg (by rw [beq_iff_eq]; omega), if_neg hn]
        have ht : (Lib.index l [c] + 1).toNat = (Lib.index l [c]).toNat + 1 := by omega
        rw [ht]
        simp
end Go.Proofs.YtjjlodeiejobdaaDoor
