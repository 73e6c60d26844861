/- Plain laws on rows of slots: what a slot has behind each act. No condition. -/
import Derived.Test.YtimhpncdlaildaaSlH
namespace Go.Proofs.Ytimhpncdlaildaa

theorem mget_nil {α β : Type} [DecidableEq α] (k : α) : mget ([] : List (α × β)) k = none := rfl
theorem mget_cons {α β : Type} [DecidableEq α] (p : α × β) (l : List (α × β)) (k : α) : mget (p :: l) k = if p.1 = k then some p.2 else mget l k := by
  simp only [mget, List.find?_cons]
  by_cases h : p.1 = k <;> simp [h]
theorem mget_append {α β : Type} [DecidableEq α] (l m : List (α × β)) (k : α) : mget (l ++ m) k = (mget l k).or (mget m k) := by
  induction l with
  | nil => simp [mget_nil]
  | cons p l ih => rw [List.cons_append, mget_cons, mget_cons, ih]; split <;> simp
theorem mget_filter {α β : Type} [DecidableEq α] (l : List (α × β)) (q : α → Bool) (k : α) : mget (l.filter fun p => q p.1) k = if q k then mget l k else none := by
  induction l with
  | nil => simp [mget_nil]
  | cons p l ih =>
    rw [List.filter_cons]
    by_cases hq : q p.1
    · rw [if_pos hq, mget_cons, mget_cons, ih]
      by_cases e : p.1 = k
      · subst e; simp [hq]
      · simp [e]
    · rw [if_neg hq, ih, mget_cons]
      by_cases e : p.1 = k
      · subst e; simp [hq]
      · simp [e]
theorem mget_map_put {α β : Type} [DecidableEq α] (l : List (α × β)) (k : α) (v : β) (j : α) (h : (mget l k).isSome) : mget (l.map fun p => if p.1 = k then (k, v) else p) j = if k = j then some v else mget l j := by
  induction l with
  | nil => simp [mget_nil] at h
  | cons p l ih =>
    rw [List.map_cons, mget_cons]
    rw [mget_cons] at h
    by_cases e : p.1 = k
    · simp only [e, if_true]
      by_cases e2 : k = j
      · simp [e2]
      · rw [if_neg e2, if_neg e2, mget_cons, e, if_neg e2]
        by_cases hs : (mget l k).isSome
        · rw [ih hs, if_neg e2]
        · have : ∀ q ∈ l, q.1 ≠ k := by
            intro q hq hk
            apply hs
            simp only [mget, Option.isSome_map, List.find?_isSome, decide_eq_true_eq]
            exact ⟨q, hq, hk⟩
          congr 1
          conv => rhs; rw [← List.map_id l]
          apply List.map_congr_left
          intro q hq
          simp [this q hq]
    · rw [if_neg e] at h
      simp only [e, if_false]
      rw [ih h, mget_cons]
      by_cases e2 : k = j
      · subst e2; simp [e]
      · simp [e2]
theorem mget_mput {α β : Type} [DecidableEq α] (l : List (α × β)) (k : α) (v : β) (j : α) : mget (mput l k v) j = if k = j then some v else mget l j := by
  unfold mput
  split
  · rename_i h; exact mget_map_put l k v j h
  · rename_i h
    rw [mget_append]
    by_cases e : k = j
    · subst e
      have : mget l k = none := by simpa using h
      rw [this, mget_cons]; simp
    · rw [mget_cons, if_neg e, mget_nil, if_neg e]; simp

/-- A row behind at most n acts of Next. -/
structure Fit (s : SRow) (n : Nat) : Prop where
  bt : s.base.toNat ≤ s.top.toNat
  tb : s.top.toNat ≤ s.base.toNat + n
  tm : s.top.toNat ≤ 4611686018427387904
  keys : ∀ k, (mget s.l k).isSome → k.toNat ≤ 4611686018427387904
  all : ∀ k, s.base.toNat < k.toNat → k.toNat ≤ s.top.toNat → (mget s.l k).isSome

theorem Fit.mono {s : SRow} {n m : Nat} (h : Fit s n) (hn : n ≤ m) : Fit s m := ⟨h.bt, Nat.le_trans h.tb (by omega), h.tm, h.keys, h.all⟩
theorem Fit.new {b : BitVec 64} (hb : b.toNat ≤ 4611686018427387904) (x : BitVec 64) : Fit ⟨b, b, x, []⟩ 0 := ⟨Nat.le_refl _, Nat.le_refl _, hb, fun k h => by simp [mget_nil] at h, fun k h1 h2 => by
  have h1' : b.toNat < k.toNat := h1
  have h2' : k.toNat ≤ b.toNat := h2
  omega⟩
theorem top_succ {x : BitVec 64} (h : x.toNat ≤ 4611686018427387904) : (x + 1#64).toNat = x.toNat + 1 := by
  rw [BitVec.toNat_add]
  simp
  omega
theorem Fit.next {s : SRow} {n : Nat} (h : Fit s n) : Fit (nextS s) (n + 1) := by
  unfold nextS
  have hs := top_succ h.tm
  split
  · rename_i hi
    have hk := h.keys _ hi
    refine ⟨?_, ?_, hk, h.keys, ?_⟩
    · show s.base.toNat ≤ (s.top + 1#64).toNat; have := h.bt; omega
    · show (s.top + 1#64).toNat ≤ s.base.toNat + (n + 1); have := h.tb; omega
    · intro k h1 h2
      have h2' : k.toNat ≤ (s.top + 1#64).toNat := h2
      by_cases e : k = s.top + 1#64
      · rw [e]; exact hi
      · refine h.all k h1 ?_
        have : k.toNat ≠ (s.top + 1#64).toNat := fun he => e (BitVec.eq_of_toNat_eq he)
        omega
  · exact h.mono (by omega)
theorem maxB_toNat (x y : BitVec 64) : (maxB x y).toNat = Nat.max x.toNat y.toNat := by
  unfold maxB
  split <;> (simp only [Nat.max_def]; split <;> omega)
theorem cutS_get (s : SRow) (x k : BitVec 64) : mget (cutS s x).l k = if k.toNat ≤ x.toNat then none else mget s.l k := by
  show mget (s.l.filter fun p => !decide (p.1.toNat ≤ x.toNat)) k = _
  rw [mget_filter s.l (fun k => !decide (k.toNat ≤ x.toNat)) k]
  by_cases h : k.toNat ≤ x.toNat <;> simp [h]
theorem Fit.keep {s : SRow} {n : Nat} (h : Fit s n) (x : BitVec 64) : Fit (keepS s x) n := by
  unfold keepS
  split
  · exact h
  · rename_i hx
    have hm := maxB_toNat s.base x
    have hm' : (maxB s.base x).toNat = max s.base.toNat x.toNat := hm
    have h1 := h.bt
    have h2 := h.tb
    refine ⟨?_, ?_, h.tm, ?_, ?_⟩
    · show (maxB s.base x).toNat ≤ s.top.toNat; omega
    · show s.top.toNat ≤ (maxB s.base x).toNat + n; omega
    · intro k hk
      have hk' : (mget (cutS s (maxB s.base x)).l k).isSome := hk
      rw [cutS_get] at hk'
      split at hk'
      · simp at hk'
      · exact h.keys k hk'
    · intro k hk1 hk2
      have hk1' : (maxB s.base x).toNat < k.toNat := hk1
      show (mget (cutS s (maxB s.base x)).l k).isSome
      rw [cutS_get, if_neg (by omega)]
      exact h.all k (by omega) hk2
theorem Fit.jump {s : SRow} {n : Nat} (h : Fit s n) (x : BitVec 64) : Fit (jumpS s x) n := by
  unfold jumpS
  split
  · exact h
  · rename_i hx
    refine ⟨Nat.le_refl _, Nat.le_add_right _ _, (by omega : x.toNat ≤ 4611686018427387904), ?_, ?_⟩
    · intro k hk
      have hk' : (mget (cutS s x).l k).isSome := hk
      rw [cutS_get] at hk'
      split at hk'
      · simp at hk'
      · exact h.keys k hk'
    · intro k hk1 hk2
      have hk1' : x.toNat < k.toNat := hk1
      have hk2' : k.toNat ≤ x.toNat := hk2
      omega
theorem putS_top (s : SRow) (x : BitVec 64) (v : ByteArray) : (putS s x v).top = s.top ∧ (putS s x v).base = s.base := by
  unfold putS
  split
  · exact ⟨rfl, rfl⟩
  split
  · exact ⟨rfl, rfl⟩
  split <;> exact ⟨rfl, rfl⟩
/-- What a slot has behind a Put. -/
theorem putS_get (s : SRow) (x : BitVec 64) (v : ByteArray) (k : BitVec 64) :
    mget (putS s x v).l k = if x = k ∧ x.toNat ≠ 0 ∧ x.toNat ≤ 4611686018427387904 ∧ s.base.toNat < x.toNat ∧ mget s.l x = none then some v else mget s.l k := by
  unfold putS
  split
  · rename_i h; rw [if_neg (by omega)]
  split
  · rename_i h; rw [if_neg (by omega)]
  split
  · rename_i h
    rw [if_neg (by intro ⟨_, _, _, _, e⟩; rw [e] at h; simp at h)]
  · rename_i h1 h2 h3
    show mget (mput s.l x v) k = _
    rw [mget_mput]
    cases hg : mget s.l x with
    | none =>
      by_cases e : x = k
      · rw [if_pos e, if_pos ⟨e, by omega, by omega, by omega, rfl⟩]
      · rw [if_neg e, if_neg (fun ⟨e', _⟩ => e e')]
    | some old =>
      rw [hg] at h3
      have : old = v := by simpa using h3
      subst this
      by_cases e : x = k
      · subst e; rw [if_pos rfl, if_neg (fun h => by cases h.2.2.2.2), hg]
      · rw [if_neg e, if_neg (fun h => e h.1)]
theorem Fit.put {s : SRow} {n : Nat} (h : Fit s n) (x : BitVec 64) (v : ByteArray) : Fit (putS s x v) n := by
  obtain ⟨e1, e2⟩ := putS_top s x v
  refine ⟨by rw [e1, e2]; exact h.bt, by rw [e1, e2]; exact h.tb, by rw [e1]; exact h.tm, fun k hk => ?_, fun k h1 h2 => ?_⟩
  · rw [putS_get] at hk
    split at hk
    · rename_i hc; rw [← hc.1]; exact hc.2.2.1
    · exact h.keys k hk
  · rw [e2] at h1
    rw [e1] at h2
    rw [putS_get]
    split
    · rfl
    · exact h.all k h1 h2
end Go.Proofs.Ytimhpncdlaildaa
