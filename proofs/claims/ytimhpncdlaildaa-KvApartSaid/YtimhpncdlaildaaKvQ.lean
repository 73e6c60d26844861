/- The state of keys, plain: a command hangs on its key alone. No condition but the keys' order and that there is room. -/
import Derived.Test.YtimhpncdlaildaaKvI
import Derived.Test.YtimhpncdlaildaaTrAD
namespace Go.Proofs.Ytimhpncdlaildaa
open Go.RowKit

theorem ins_keep {M : Prs} {k v : ByteArray} {p : ByteArray × ByteArray} (hp : p.1 ≠ k) : p ∈ insL M k v ↔ p ∈ M := by
  constructor
  · intro h
    rcases ins_mem h with rfl | h
    · exact absurd rfl hp
    · exact h
  · intro h
    simp only [insL, List.mem_append, List.mem_cons, List.mem_filter]
    by_cases h1 : slt p.1 k = true
    · exact .inl ⟨h, h1⟩
    · by_cases h2 : slt k p.1 = true
      · exact .inr (.inr ⟨h, h2⟩)
      · exact absurd (slt_or h1 h2) hp
theorem rm_keep {M : Prs} {k : ByteArray} {p : ByteArray × ByteArray} (hp : p.1 ≠ k) : p ∈ rmL M k ↔ p ∈ M := by
  constructor
  · exact fun h => (rm_mem h).1
  · intro h
    simp only [rmL, List.mem_append, List.mem_filter]
    by_cases h1 : slt p.1 k = true
    · exact .inl ⟨h, h1⟩
    · by_cases h2 : slt k p.1 = true
      · exact .inr ⟨h, h2⟩
      · exact absurd (slt_or h1 h2) hp
theorem look_same {S U : Sh} (hS : Asc S.kv) (hU : Asc U.kv) {k : ByteArray} (h : ∀ v, (k, v) ∈ S.kv ↔ (k, v) ∈ U.kv) : S.look k = U.look k := by
  cases hs : S.look k with
  | some v => exact ((look_kv k hU v).2 ((h v).1 ((look_kv k hS v).1 hs))).symm
  | none =>
    cases hu : U.look k with
    | none => rfl
    | some v =>
      have := (look_kv k hS v).2 ((h v).2 ((look_kv k hU v).1 hu))
      rw [hs] at this
      cases this
theorem put_other {S : Sh} (h : Asc S.kv) {k k' v : ByteArray} (hk : k' ≠ k) : (putSh k v S (S.look k)).look k' = S.look k' := by
  refine look_same (asc_put h k v _) h (fun u => ?_)
  rw [show (putSh k v S (S.look k)).kv = insL S.kv k v from step_kv h ⟨1, k, v⟩]
  exact ins_keep hk
theorem del_other {S : Sh} (h : Asc S.kv) {k k' : ByteArray} (hk : k' ≠ k) : (delSh k S (S.look k)).look k' = S.look k' := by
  refine look_same (asc_del h k _) h (fun u => ?_)
  rw [show (delSh k S (S.look k)).kv = rmL S.kv k from step_kv h ⟨0, k, ByteArray.empty⟩]
  exact rm_keep hk
/-- What a command leaves of the keys: the same, or one put, or one taken: its own. -/
inductive KvStep (S : Sh) (c : CmdV) : Sh → Prop
  | same : KvStep S c S
  | put : KvStep S c (putSh c.key c.fresh S (S.look c.key))
  | del : KvStep S c (delSh c.key S (S.look c.key))
theorem kv_step {S : Sh} (c : CmdV) : KvStep S c (kvDo S c).sh := by
  unfold kvDo
  by_cases hm : mayC c = true
  · rw [if_pos hm]
    by_cases h1 : c.kind = 1
    · rw [if_pos h1]; unfold kvGet; split <;> exact .same
    rw [if_neg h1]
    by_cases h2 : c.kind = 2
    · rw [if_pos h2]
      unfold kvPut
      cases hl : S.look c.key with
      | none =>
        by_cases hf : 256 ≤ S.cnt
        · simp only [hf, if_true]; exact .same
        · simp only [hf, if_false]; rw [← hl]; exact .put
      | some v => show KvStep S c (putSh c.key c.fresh S (some v)); rw [← hl]; exact .put
    rw [if_neg h2]
    by_cases h3 : c.kind = 3
    · rw [if_pos h3]
      unfold kvDel
      cases hl : S.look c.key with
      | none => exact .same
      | some v => show KvStep S c (delSh c.key S (some v)); rw [← hl]; exact .del
    rw [if_neg h3]
    by_cases h4 : c.kind = 4
    · rw [if_pos h4]
      unfold kvCas
      cases hl : S.look c.key with
      | none => exact .same
      | some v =>
        by_cases hf : v = c.old
        · simp only [hf, if_true]; rw [← hf, ← hl]; exact .put
        · simp only [hf, if_false]; exact .same
    rw [if_neg h4]
    exact .same
  · rw [if_neg hm]
    exact .same
theorem kv_asc {S : Sh} (h : Asc S.kv) (c : CmdV) : Asc (kvDo S c).sh.kv := by
  have := kv_step (S := S) c
  generalize (kvDo S c).sh = U at *
  cases this with
  | same => exact h
  | put => exact asc_put h _ _ _
  | del => exact asc_del h _ _
theorem kv_other {S : Sh} (h : Asc S.kv) (c : CmdV) {k : ByteArray} (hk : k ≠ c.key) : (kvDo S c).sh.look k = S.look k := by
  have := kv_step (S := S) c
  generalize (kvDo S c).sh = U at *
  cases this with
  | same => rfl
  | put => exact put_other h hk
  | del => exact del_other h hk
/-- Where the key has the same, the reply is the same, and so is what the key has behind. -/
theorem kv_same {S U : Sh} (hS : Asc S.kv) (hU : Asc U.kv) (c : CmdV) (hl : S.look c.key = U.look c.key) (hs : S.cnt < 256) (hu : U.cnt < 256) :
    (kvDo S c).code = (kvDo U c).code ∧ (kvDo S c).text = (kvDo U c).text ∧ (kvDo S c).sh.look c.key = (kvDo U c).sh.look c.key := by
  have p1 := put_look hS c.key c.fresh
  have p2 := put_look hU c.key c.fresh
  have d1 := del_look hS c.key
  have d2 := del_look hU c.key
  unfold kvDo
  by_cases hm : mayC c = true
  · rw [if_pos hm, if_pos hm]
    by_cases h1 : c.kind = 1
    · rw [if_pos h1, if_pos h1]; unfold kvGet; rw [← hl]
      cases hc : S.look c.key with
      | none => exact ⟨rfl, rfl, hl⟩
      | some v => exact ⟨rfl, rfl, hl⟩
    rw [if_neg h1, if_neg h1]
    by_cases h2 : c.kind = 2
    · rw [if_pos h2, if_pos h2]
      unfold kvPut
      rw [← hl] at p2 ⊢
      cases hc : S.look c.key with
      | none =>
        rw [hc] at p1 p2
        simp only
        rw [if_neg (show ¬ 256 ≤ S.cnt by omega), if_neg (show ¬ 256 ≤ U.cnt by omega)]
        exact ⟨rfl, rfl, p1.trans p2.symm⟩
      | some v =>
        rw [hc] at p1 p2
        exact ⟨rfl, rfl, p1.trans p2.symm⟩
    rw [if_neg h2, if_neg h2]
    by_cases h3 : c.kind = 3
    · rw [if_pos h3, if_pos h3]
      unfold kvDel
      rw [← hl] at d2 ⊢
      cases hc : S.look c.key with
      | none => exact ⟨rfl, rfl, hl⟩
      | some v =>
        rw [hc] at d1 d2
        exact ⟨rfl, rfl, d1.trans d2.symm⟩
    rw [if_neg h3, if_neg h3]
    by_cases h4 : c.kind = 4
    · rw [if_pos h4, if_pos h4]
      unfold kvCas
      rw [← hl] at p2 ⊢
      cases hc : S.look c.key with
      | none => exact ⟨rfl, rfl, hl⟩
      | some v =>
        rw [hc] at p1 p2
        by_cases hf : v = c.old
        · simp only [hf, if_true] at p1 p2 ⊢
          exact ⟨trivial, trivial, p1.trans p2.symm⟩
        · simp only [hf, if_false]
          exact ⟨trivial, trivial, hl⟩
    rw [if_neg h4, if_neg h4]
    exact ⟨rfl, rfl, hl⟩
  · rw [if_neg hm, if_neg hm]
    exact ⟨rfl, rfl, hl⟩
theorem real_same (k : ByteArray) (l : Option ByteArray) : (chgOf k l l).real = false := by
  cases l <;> simp [chgOf, Chg.real]
/-- A command changes its key alone. -/
theorem kv_diff {S : Sh} (h : Asc S.kv) (c : CmdV) : ∀ x ∈ diffL S.kv (kvDo S c).sh.kv, x.key = c.key := by
  intro x hx
  obtain ⟨h1, h2⟩ := diff_look h (kv_asc h c) hx
  by_cases hk : x.key = c.key
  · exact hk
  · rw [kv_other h c hk] at h1
    rw [h1, real_same] at h2
    cases h2
/-- Two commands of other keys may change places. -/
theorem kv_apart {S : Sh} (h : Asc S.kv) (a b : CmdV) (hab : a.key ≠ b.key) (hn : S.cnt < 256) (hna : (kvDo S a).sh.cnt < 256) (hnb : (kvDo S b).sh.cnt < 256) :
    ((kvDo (kvDo S b).sh a).code = (kvDo S a).code ∧ (kvDo (kvDo S b).sh a).text = (kvDo S a).text) ∧ ((kvDo (kvDo S a).sh b).code = (kvDo S b).code ∧ (kvDo (kvDo S a).sh b).text = (kvDo S b).text) ∧
      diffL (kvDo (kvDo S a).sh b).sh.kv (kvDo (kvDo S b).sh a).sh.kv = [] := by
  have hA := kv_asc h a
  have hB := kv_asc h b
  obtain ⟨e1, e2, e3⟩ := kv_same hB h a (kv_other h b hab) hnb hn
  obtain ⟨f1, f2, f3⟩ := kv_same hA h b (kv_other h a (Ne.symm hab)) hna hn
  refine ⟨⟨e1, e2⟩, ⟨f1, f2⟩, List.eq_nil_iff_forall_not_mem.2 (fun x hx => ?_)⟩
  obtain ⟨h1, h2⟩ := diff_look (kv_asc hA b) (kv_asc hB a) hx
  have hl : (kvDo (kvDo S a).sh b).sh.look x.key = (kvDo (kvDo S b).sh a).sh.look x.key := by
    by_cases ka : x.key = a.key
    · rw [ka, e3, kv_other hA b hab]
    · rw [kv_other hB a ka]
      by_cases kb : x.key = b.key
      · rw [kb, f3]
      · rw [kv_other hA b kb, kv_other h a ka, kv_other h b kb]
  rw [hl] at h1
  rw [h1, real_same] at h2
  cases h2
end Go.Proofs.Ytimhpncdlaildaa
