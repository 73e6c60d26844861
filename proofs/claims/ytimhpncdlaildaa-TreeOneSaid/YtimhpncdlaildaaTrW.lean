/- Plain laws on what differs between two lists of pairs in order. No condition. -/
import Derived.Test.YtimhpncdlaildaaTrQ
namespace Go.Proofs.Ytimhpncdlaildaa
open Go.RowKit

structure Chg where
  key : ByteArray
  old : ByteArray
  new : ByteArray
  had : Bool
  has : Bool
deriving DecidableEq
def cDel (p : ByteArray × ByteArray) : Chg := ⟨p.1, p.2, ByteArray.empty, true, false⟩
def cAdd (q : ByteArray × ByteArray) : Chg := ⟨q.1, ByteArray.empty, q.2, false, true⟩
/-- What differs, by the keys' order. -/
def diffL : Prs → Prs → List Chg
  | [], [] => []
  | p :: A, [] => cDel p :: diffL A []
  | [], q :: B => cAdd q :: diffL [] B
  | p :: A, q :: B => if slt p.1 q.1 = true then cDel p :: diffL A (q :: B) else if slt q.1 p.1 = true then cAdd q :: diffL (p :: A) B else if p.2 = q.2 then diffL A B else ⟨p.1, p.2, q.2, true, true⟩ :: diffL A B
termination_by A B => A.length + B.length
theorem diff_nil_nil : diffL [] [] = [] := by rw [diffL]
theorem diff_cons_nil (p : ByteArray × ByteArray) (A : Prs) : diffL (p :: A) [] = cDel p :: diffL A [] := by rw [diffL]
theorem diff_nil_cons (q : ByteArray × ByteArray) (B : Prs) : diffL [] (q :: B) = cAdd q :: diffL [] B := by rw [diffL]
theorem diff_cons_cons (p q : ByteArray × ByteArray) (A B : Prs) : diffL (p :: A) (q :: B) = if slt p.1 q.1 = true then cDel p :: diffL A (q :: B) else if slt q.1 p.1 = true then cAdd q :: diffL (p :: A) B else if p.2 = q.2 then diffL A B else ⟨p.1, p.2, q.2, true, true⟩ :: diffL A B := by rw [diffL]
theorem diff_del {p : ByteArray × ByteArray} {A B : Prs} (h : ∀ q ∈ B, slt p.1 q.1 = true) : diffL (p :: A) B = cDel p :: diffL A B := by
  cases B with
  | nil => rw [diff_cons_nil]
  | cons q B => rw [diff_cons_cons, if_pos (h q (by simp))]
theorem diff_add {q : ByteArray × ByteArray} {A B : Prs} (h : ∀ p ∈ A, slt q.1 p.1 = true) : diffL A (q :: B) = cAdd q :: diffL A B := by
  cases A with
  | nil => rw [diff_nil_cons]
  | cons p A =>
    have h1 := h p (by simp)
    rw [diff_cons_cons, if_neg (by rw [slt_asymm h1]; exact Bool.false_ne_true), if_pos h1]
theorem diff_append : ∀ (n : Nat) {A1 B1 A2 B2 : Prs}, A1.length + B1.length ≤ n → (∀ p ∈ A1 ++ B1, ∀ q ∈ A2 ++ B2, slt p.1 q.1 = true) → diffL (A1 ++ A2) (B1 ++ B2) = diffL A1 B1 ++ diffL A2 B2
  | n, [], [], _, _, _, _ => by rw [diff_nil_nil]; rfl
  | 0, p :: A1, _, _, _, h, _ => by simp at h
  | 0, [], q :: B1, _, _, h, _ => by simp at h
  | n + 1, p :: A1, [], A2, B2, h, hs => by
    have ih := diff_append n (A1 := A1) (B1 := []) (A2 := A2) (B2 := B2) (by simpa using h) (fun x hx y hy => hs x (by simp at hx ⊢; exact .inr hx) y hy)
    show diffL (p :: (A1 ++ A2)) B2 = _
    rw [diff_del (fun q hq => hs p (by simp) q (by simp [hq])), diff_cons_nil, List.cons_append, ← ih]
    rfl
  | n + 1, [], q :: B1, A2, B2, h, hs => by
    have ih := diff_append n (A1 := []) (B1 := B1) (A2 := A2) (B2 := B2) (by simpa using h) (fun x hx y hy => hs x (by simp at hx ⊢; exact .inr hx) y hy)
    show diffL A2 (q :: (B1 ++ B2)) = _
    rw [diff_add (fun p hp => hs q (by simp) p (by simp [hp])), diff_nil_cons, List.cons_append, ← ih]
    rfl
  | n + 1, p :: A1, q :: B1, A2, B2, h, hs => by
    simp only [List.length_cons] at h
    show diffL (p :: (A1 ++ A2)) (q :: (B1 ++ B2)) = _
    rw [diff_cons_cons, diff_cons_cons]
    split
    · have ih := diff_append n (A1 := A1) (B1 := q :: B1) (A2 := A2) (B2 := B2) (by simp; omega) (fun x hx y hy => hs x (by simp at hx ⊢; exact .inr hx) y hy)
      rw [List.cons_append, ← ih]; rfl
    split
    · have ih := diff_append n (A1 := p :: A1) (B1 := B1) (A2 := A2) (B2 := B2) (by simp; omega) (fun x hx y hy => hs x (by simp at hx ⊢; rcases hx with h | h | h <;> simp [h]) y hy)
      rw [List.cons_append, ← ih]; rfl
    have ih := diff_append n (A1 := A1) (B1 := B1) (A2 := A2) (B2 := B2) (by omega) (fun x hx y hy => hs x (by simp at hx ⊢; rcases hx with h | h <;> simp [h]) y hy)
    split
    · exact ih
    · rw [List.cons_append, ← ih]
theorem diff_self : ∀ A : Prs, diffL A A = []
  | [] => diff_nil_nil
  | p :: A => by rw [diff_cons_cons, if_neg (by rw [slt_irrefl]; exact Bool.false_ne_true), if_neg (by rw [slt_irrefl]; exact Bool.false_ne_true), if_pos rfl, diff_self A]

/-- One key's pair, if it has one. -/
def atK (k : ByteArray) : Option ByteArray → Prs
  | some v => [(k, v)]
  | none => []
theorem asc_three (k : ByteArray) : ∀ {S : Sh}, Asc S.kv → S.kv = S.kv.filter (ltB k) ++ (atK k (S.look k) ++ S.kv.filter (gtB k))
  | .nil, _ => rfl
  | .node k0 v0 wt l r, h => by
    have h' : Asc (l.kv ++ (k0, v0) :: r.kv) := h
    obtain ⟨hl, hr, _, _⟩ := asc_node h'
    unfold Sh.look
    simp only [Sh.kv]
    by_cases e : k0 = k
    · subst e
      obtain ⟨f1, f2⟩ := filt_eq h'
      rw [if_pos rfl, f1, f2]
      rfl
    · rw [if_neg e]
      by_cases hk : slt k k0 = true
      · obtain ⟨f1, f2⟩ := filt_lt h' hk
        have ih := asc_three k hl
        rw [if_pos hk, f1, f2]
        conv => lhs; rw [ih]
        simp
      · have hk' : slt k0 k = true := by
          rw [← Bool.not_eq_false]
          intro h2
          exact e (slt_total h2 (by simpa using hk))
        obtain ⟨f1, f2⟩ := filt_gt h' hk'
        have ih := asc_three k hr
        rw [if_neg hk, f1, f2]
        conv => lhs; rw [ih]
        simp
/-- What the change of one key tells. -/
def chgOf (k : ByteArray) (a b : Option ByteArray) : Chg := ⟨k, a.getD ByteArray.empty, b.getD ByteArray.empty, a.isSome, b.isSome⟩
def Chg.real (c : Chg) : Bool := decide (c.had ≠ c.has) || decide (c.old ≠ c.new)
theorem diff_mid (k : ByteArray) (a b : Option ByteArray) : diffL (atK k a) (atK k b) = if (chgOf k a b).real = true then [chgOf k a b] else [] := by
  cases a with
  | none =>
    cases b with
    | none => simp [atK, diff_nil_nil, chgOf, Chg.real]
    | some v => simp [atK, diff_nil_cons, diff_nil_nil, chgOf, Chg.real, cAdd]
  | some v =>
    cases b with
    | none => simp [atK, diff_cons_nil, diff_nil_nil, chgOf, Chg.real, cDel]
    | some u =>
      simp only [atK]
      rw [diff_cons_cons, if_neg (by rw [slt_irrefl]; exact Bool.false_ne_true), if_neg (by rw [slt_irrefl]; exact Bool.false_ne_true), diff_nil_nil]
      by_cases e : v = u
      · subst e; simp [chgOf, Chg.real]
      · simp [chgOf, Chg.real, e]
theorem mem_atK {k : ByteArray} {o : Option ByteArray} {p : ByteArray × ByteArray} (h : p ∈ atK k o) : p.1 = k := by
  cases o <;> simp [atK] at h
  rw [h]
theorem diff_three (k : ByteArray) {S U : Sh} (hS : Asc S.kv) (hU : Asc U.kv) :
    diffL S.kv U.kv = diffL (S.kv.filter (ltB k)) (U.kv.filter (ltB k)) ++ ((if (chgOf k (S.look k) (U.look k)).real = true then [chgOf k (S.look k) (U.look k)] else []) ++ diffL (S.kv.filter (gtB k)) (U.kv.filter (gtB k))) := by
  have e1 := asc_three k hS
  have e2 := asc_three k hU
  have lo : ∀ (L : Prs), ∀ p ∈ L.filter (ltB k), slt p.1 k = true := fun L p hp => (List.mem_filter.1 hp).2
  have hi : ∀ (L : Prs), ∀ p ∈ L.filter (gtB k), slt k p.1 = true := fun L p hp => (List.mem_filter.1 hp).2
  conv => lhs; rw [e1, e2]
  rw [diff_append _ (Nat.le_refl _), diff_append _ (Nat.le_refl _), diff_mid]
  · intro p hp q hq
    have h1 : p.1 = k := by
      rcases List.mem_append.1 hp with h | h <;> exact mem_atK h
    rw [h1]
    rcases List.mem_append.1 hq with h | h <;> exact hi _ q h
  · intro p hp q hq
    have h1 : slt p.1 k = true := by
      rcases List.mem_append.1 hp with h | h <;> exact lo _ p h
    have h2 : q.1 = k ∨ slt k q.1 = true := by
      rcases List.mem_append.1 hq with h | h <;> rcases List.mem_append.1 h with h | h
      · exact .inl (mem_atK h)
      · exact .inr (hi _ q h)
      · exact .inl (mem_atK h)
      · exact .inr (hi _ q h)
    rcases h2 with h2 | h2
    · rw [h2]; exact h1
    · exact slt_trans h1 h2
theorem diff_len : ∀ (n : Nat) {A B : Prs}, A.length + B.length ≤ n → (diffL A B).length ≤ A.length + B.length
  | n, [], [], _ => by rw [diff_nil_nil]; simp
  | 0, p :: A, _, h => by simp at h
  | 0, [], q :: B, h => by simp at h
  | n + 1, p :: A, [], h => by
    have := diff_len n (A := A) (B := []) (by simpa using h)
    rw [diff_cons_nil]
    simp at this ⊢
    omega
  | n + 1, [], q :: B, h => by
    have := diff_len n (A := []) (B := B) (by simpa using h)
    rw [diff_nil_cons]
    simp at this ⊢
    omega
  | n + 1, p :: A, q :: B, h => by
    simp only [List.length_cons] at h
    have h1 := diff_len n (A := A) (B := q :: B) (by simp; omega)
    have h2 := diff_len n (A := p :: A) (B := B) (by simp; omega)
    have h3 := diff_len n (A := A) (B := B) (by omega)
    rw [diff_cons_cons]
    simp only [List.length_cons] at h1 h2 h3 ⊢
    split
    · simp only [List.length_cons]; omega
    split
    · simp only [List.length_cons]; omega
    split
    · omega
    · simp only [List.length_cons]; omega
end Go.Proofs.Ytimhpncdlaildaa
