/- The state of keys, plain: what Do keeps and answers, over what the keys are. No condition. -/
import Derived.Test.YtimhpncdlaildaaKvF
import Derived.Test.YtimhpncdlaildaaTrQ
namespace Go.Proofs.Ytimhpncdlaildaa
open Go.RowKit

theorem filt_len (k : ByteArray) : ∀ M : Prs, (M.filter (ltB k)).length + (M.filter (gtB k)).length ≤ M.length
  | [] => Nat.le_refl _
  | p :: M => by
    have ih := filt_len k M
    simp only [List.filter_cons]
    by_cases h1 : ltB k p = true
    · have h2 : gtB k p = false := slt_asymm h1
      rw [if_pos h1, h2]
      simp only [List.length_cons, Bool.false_eq_true, if_false]
      omega
    · rw [if_neg h1]
      split <;> simp only [List.length_cons] <;> omega
theorem ins_len {M : Prs} (h : Asc M) (k v : ByteArray) : (insL M k v).length ≤ M.length + 1 ∧ ((∃ u, (k, u) ∈ M) → (insL M k v).length = M.length) := by
  constructor
  · have := filt_len k M
    simp only [insL, List.length_append, List.length_cons]
    omega
  · rintro ⟨u, hu⟩
    obtain ⟨L, R, rfl⟩ := List.append_of_mem hu
    obtain ⟨f1, f2⟩ := filt_eq h
    simp only [insL, f1, f2, List.length_append, List.length_cons]
theorem rm_len (M : Prs) (k : ByteArray) : (rmL M k).length ≤ M.length := by
  have := filt_len k M
  simp only [rmL, List.length_append]
  omega
theorem ins_mem {M : Prs} {k v : ByteArray} {p : ByteArray × ByteArray} (h : p ∈ insL M k v) : p = (k, v) ∨ p ∈ M := by
  simp only [insL, List.mem_append, List.mem_cons, List.mem_filter] at h
  rcases h with h | h | h
  · exact .inr h.1
  · exact .inl h
  · exact .inr h.1
theorem rm_mem {M : Prs} {k : ByteArray} {p : ByteArray × ByteArray} (h : p ∈ rmL M k) : p ∈ M ∧ p.1 ≠ k := by
  simp only [rmL, List.mem_append, List.mem_filter] at h
  rcases h with h | h
  · refine ⟨h.1, ?_⟩
    rintro rfl
    have := h.2
    unfold ltB at this
    rw [slt_irrefl] at this
    cases this
  · refine ⟨h.1, ?_⟩
    rintro rfl
    have := h.2
    unfold gtB at this
    rw [slt_irrefl] at this
    cases this

/-- What the keys are, as Do keeps it. -/
structure KvInv (S : Sh) : Prop where
  asc : Asc S.kv
  num : S.cnt ≤ 256
  val : ∀ p ∈ S.kv, p.2.size ≤ 64
theorem KvInv.nil : KvInv .nil := ⟨List.Pairwise.nil, by simp [Sh.cnt], fun p hp => by simp [Sh.kv] at hp⟩
theorem KvInv.look {S : Sh} (h : KvInv S) {k v : ByteArray} (hl : S.look k = some v) : v.size ≤ 64 := h.val _ ((look_kv k h.asc v).1 hl)
theorem put_look {S : Sh} (h : Asc S.kv) (k v : ByteArray) : (putSh k v S (S.look k)).look k = some v := by
  have ha := asc_put h k v (S.look k)
  unfold putSh at ha ⊢
  split
  · rename_i he; exact he
  · rename_i he
    rw [if_neg he] at ha
    rw [look_kv k ha, kv_put k v _ h]
    simp [insL]
theorem del_look {S : Sh} (h : Asc S.kv) (k : ByteArray) : (delSh k S (S.look k)).look k = none := by
  have ha := asc_del h k (S.look k)
  unfold delSh at ha ⊢
  split
  · rename_i he; exact he
  · rename_i he
    rw [if_neg he] at ha
    cases hc : (S.del k).look k with
    | none => rfl
    | some u =>
      have := (look_kv k ha u).1 hc
      rw [kv_del k h] at this
      exact absurd rfl (rm_mem this).2
theorem KvInv.put {S : Sh} (h : KvInv S) {k v : ByteArray} (hv : v.size ≤ 64) (hn : S.cnt < 256 ∨ ∃ u, S.look k = some u) : KvInv (putSh k v S (S.look k)) := by
  have ha := asc_put h.asc k v (S.look k)
  unfold putSh at ha ⊢
  split
  · exact h
  · rename_i he
    rw [if_neg he] at ha
    obtain ⟨l1, l2⟩ := ins_len h.asc k v
    refine ⟨ha, ?_, fun p hp => ?_⟩
    · have hc := h.num
      rw [cnt_kv] at hc hn ⊢
      rw [kv_put k v _ h.asc]
      rcases hn with hn | ⟨u, hu⟩
      · omega
      · rw [l2 ⟨u, (look_kv k h.asc u).1 hu⟩]; exact hc
    · rw [kv_put k v _ h.asc] at hp
      rcases ins_mem hp with rfl | hp
      · exact hv
      · exact h.val p hp
theorem KvInv.del {S : Sh} (h : KvInv S) (k : ByteArray) : KvInv (delSh k S (S.look k)) := by
  have ha := asc_del h.asc k (S.look k)
  unfold delSh at ha ⊢
  split
  · exact h
  · rename_i he
    rw [if_neg he] at ha
    refine ⟨ha, ?_, fun p hp => ?_⟩
    · have hc := h.num
      have := rm_len S.kv k
      rw [cnt_kv] at hc ⊢
      rw [kv_del k h.asc]
      omega
    · rw [kv_del k h.asc] at hp
      exact h.val p (rm_mem hp).1
theorem may_fresh {c : CmdV} (h : mayC c = true) : c.fresh.size ≤ 64 := by
  unfold mayC at h
  simp only [Bool.and_eq_true, decide_eq_true_eq] at h
  have h1 := h.1.2
  unfold mostOf at h1
  split at h1 <;> omega
/-- What Do answers, by its code. -/
inductive KvSays (S : Sh) (c : CmdV) : KvOut → Prop
  | miss (o : KvOut) : S.look c.key = none → o.sh = S → o.code = 1 → o.text = ByteArray.empty → KvSays S c o
  | no (o : KvOut) : o.sh = S → o.code = 2 → o.text.size ≤ 64 → KvSays S c o
  | got (o : KvOut) : c.kind = 1 → o.sh = S → o.code = 0 → S.look c.key = some o.text → KvSays S c o
  | put (o : KvOut) : c.kind = 2 → o.code = 0 → o.text = ByteArray.empty → o.sh.look c.key = some c.fresh → KvSays S c o
  | del (o : KvOut) : c.kind = 3 → o.code = 0 → S.look c.key = some o.text → o.sh.look c.key = none → KvSays S c o
  | cas (o : KvOut) : c.kind = 4 → o.code = 0 → o.text = ByteArray.empty → S.look c.key = some c.old → o.sh.look c.key = some c.fresh → KvSays S c o
theorem kv_says {S : Sh} (h : KvInv S) (c : CmdV) : KvInv (kvDo S c).sh ∧ KvSays S c (kvDo S c) := by
  unfold kvDo
  by_cases hm : mayC c = true
  · rw [if_pos hm]
    by_cases h1 : c.kind = 1
    · rw [if_pos h1]
      unfold kvGet
      cases hl : S.look c.key with
      | none => exact ⟨h, .miss _ hl rfl rfl rfl⟩
      | some v => exact ⟨h, .got _ h1 rfl rfl hl⟩
    rw [if_neg h1]
    by_cases h2 : c.kind = 2
    · rw [if_pos h2]
      unfold kvPut
      have hp := put_look h.asc c.key c.fresh
      have hi := h.put (may_fresh hm) (k := c.key)
      cases hl : S.look c.key with
      | none =>
        rw [hl] at hp hi
        simp only
        split
        · exact ⟨h, .no _ rfl rfl (by show (0 : Nat) ≤ 64; omega)⟩
        · rename_i hc
          exact ⟨hi (.inl (by omega)), .put _ h2 rfl rfl hp⟩
      | some v =>
        rw [hl] at hp hi
        exact ⟨hi (.inr ⟨v, rfl⟩), .put _ h2 rfl rfl hp⟩
    rw [if_neg h2]
    by_cases h3 : c.kind = 3
    · rw [if_pos h3]
      unfold kvDel
      have hp := del_look h.asc c.key
      have hi := h.del c.key
      cases hl : S.look c.key with
      | none => exact ⟨h, .miss _ hl rfl rfl rfl⟩
      | some v =>
        rw [hl] at hp hi
        exact ⟨hi, .del _ h3 rfl hl hp⟩
    rw [if_neg h3]
    by_cases h4 : c.kind = 4
    · rw [if_pos h4]
      unfold kvCas
      have hp := put_look h.asc c.key c.fresh
      have hi := h.put (may_fresh hm) (k := c.key)
      cases hl : S.look c.key with
      | none => exact ⟨h, .miss _ hl rfl rfl rfl⟩
      | some v =>
        rw [hl] at hp hi
        simp only
        split
        · rename_i hv
          subst hv
          exact ⟨hi (.inr ⟨_, rfl⟩), .cas _ h4 rfl rfl hl hp⟩
        · exact ⟨h, .no _ rfl rfl (h.look hl)⟩
    rw [if_neg h4]
    exact ⟨h, .no _ rfl rfl (by show (0 : Nat) ≤ 64; omega)⟩
  · rw [if_neg hm]
    exact ⟨h, .no _ rfl rfl (by show (0 : Nat) ≤ 64; omega)⟩
end Go.Proofs.Ytimhpncdlaildaa
