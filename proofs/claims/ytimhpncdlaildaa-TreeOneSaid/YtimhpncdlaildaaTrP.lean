/- Trees' shapes: each node's weight is its key's sum, and weights fall from the top; each act keeps that. No condition. -/
import Derived.Test.YtimhpncdlaildaaTrO
import Derived.Test.YtimhpncdlaildaaCrcT
namespace Go.Proofs.Ytimhpncdlaildaa
open Go.RowKit

def Sh.Heap : Sh → Prop
  | .nil => True
  | .node k _ wt l r => wt = crcOf k ∧ (∀ p ∈ l.kv, (crcOf p.1).toNat < wt.toNat) ∧ (∀ p ∈ r.kv, (crcOf p.1).toNat ≤ wt.toNat) ∧ l.Heap ∧ r.Heap
theorem heap_le {k v : ByteArray} {wt : BitVec 64} {l r : Sh} (h : (Sh.node k v wt l r).Heap) : ∀ p ∈ (Sh.node k v wt l r).kv, (crcOf p.1).toNat ≤ wt.toNat := by
  obtain ⟨h1, h2, h3, _, _⟩ := h
  intro p hp
  simp only [Sh.kv, List.mem_append, List.mem_cons] at hp
  rcases hp with hp | rfl | hp
  · exact Nat.le_of_lt (h2 p hp)
  · rw [h1]; exact Nat.le_refl _
  · exact h3 p hp
theorem above_cases {wt wt' : BitVec 64} {k k' : ByteArray} : (aboveB wt k wt' k' = true ↔ wt'.toNat < wt.toNat ∨ (wt = wt' ∧ slt k k' = true)) := by
  unfold aboveB
  by_cases e : wt = wt'
  · subst e; simp
  · rw [if_neg e]
    simp only [decide_eq_true_eq]
    constructor
    · exact .inl
    · rintro (h | h)
      · exact h
      · exact absurd h.1 e
theorem above_not {wt wt' : BitVec 64} {k k' : ByteArray} (h : ¬ aboveB wt k wt' k' = true) : wt.toNat < wt'.toNat ∨ (wt = wt' ∧ slt k k' = false) := by
  rw [above_cases] at h
  by_cases e : wt = wt'
  · refine .inr ⟨e, ?_⟩
    rw [Bool.eq_false_iff]
    exact fun hc => h (.inr ⟨e, hc⟩)
  · have : wt.toNat ≠ wt'.toNat := fun he => e (BitVec.eq_of_toNat_eq he)
    exact .inl (by omega)
theorem heap_split (key : ByteArray) : ∀ {S : Sh}, S.Heap → Asc S.kv → (S.split key).1.Heap ∧ (S.split key).2.Heap
  | .nil, _, _ => ⟨trivial, trivial⟩
  | .node k v wt l r, ⟨h1, h2, h3, h4, h5⟩, ha => by
    obtain ⟨al, ar, _, _⟩ := asc_node (show Asc (l.kv ++ (k, v) :: r.kv) from ha)
    unfold Sh.split
    split
    · obtain ⟨g1, g2⟩ := heap_split key h4 al
      refine ⟨g1, h1, ?_, h3, g2, h5⟩
      rw [(kv_split key al).2]
      exact fun p hp => h2 p (List.mem_filter.1 hp).1
    split
    · obtain ⟨g1, g2⟩ := heap_split key h5 ar
      refine ⟨⟨h1, h2, ?_, h4, g1⟩, g2⟩
      rw [(kv_split key ar).1]
      exact fun p hp => h3 p (List.mem_filter.1 hp).1
    · exact ⟨h4, h5⟩
theorem heap_join : ∀ (n : Nat) {a b : Sh}, SizeOf.sizeOf a + SizeOf.sizeOf b ≤ n → a.Heap → b.Heap → (∀ p ∈ a.kv, ∀ q ∈ b.kv, slt p.1 q.1 = true) → (Sh.join a b).Heap
  | _, .nil, b, _, _, hb, _ => by rw [Sh.nil_join]; exact hb
  | _, .node k v wt l r, .nil, _, ha, _, _ => by rw [Sh.join_nil]; exact ha
  | 0, .node k v wt l r, .node k' v' wt' l' r', h, _, _, _ => by simp at h
  | n + 1, .node k v wt l r, .node k' v' wt' l' r', h, ha, hb, hlt => by
    have hle := heap_le hb
    have hle' := heap_le ha
    have hkk : slt k k' = true := hlt (k, v) (by simp [Sh.kv]) (k', v') (by simp [Sh.kv])
    rw [Sh.join]
    split
    · rename_i hab
      have hw : wt'.toNat ≤ wt.toNat := by
        rcases above_cases.1 hab with h | ⟨e, _⟩
        · omega
        · rw [e]; exact Nat.le_refl _
      refine ⟨ha.1, ha.2.1, ?_, ha.2.2.2.1, heap_join n (by simp only [Sh.node.sizeOf_spec] at h ⊢; omega) ha.2.2.2.2 hb (fun p hp q hq => hlt p (by simp [Sh.kv, hp]) q hq)⟩
      rw [kv_join _ (Nat.le_refl _)]
      intro p hp
      rcases List.mem_append.1 hp with hp | hp
      · exact ha.2.2.1 p hp
      · exact Nat.le_trans (hle p hp) hw
    · rename_i hab
      have hw : wt.toNat < wt'.toNat := by
        rcases above_not hab with h | ⟨_, e⟩
        · exact h
        · rw [hkk] at e; cases e
      refine ⟨hb.1, ?_, hb.2.2.1, heap_join n (by simp only [Sh.node.sizeOf_spec] at h ⊢; omega) ha hb.2.2.2.1 (fun p hp q hq => hlt p hp q (by simp [Sh.kv, hq])), hb.2.2.2.2⟩
      rw [kv_join _ (Nat.le_refl _)]
      intro p hp
      rcases List.mem_append.1 hp with hp | hp
      · exact Nat.lt_of_le_of_lt (hle' p hp) hw
      · exact hb.2.1 p hp
theorem heap_put (k v : ByteArray) : ∀ {S : Sh}, S.Heap → Asc S.kv → (S.put k v (crcOf k)).Heap
  | .nil, _, _ => ⟨rfl, fun p h => by simp [Sh.kv] at h, fun p h => by simp [Sh.kv] at h, trivial, trivial⟩
  | .node k0 v0 wt0 l r, hh, ha => by
    obtain ⟨h1, h2, h3, h4, h5⟩ := hh
    have ha' : Asc (l.kv ++ (k0, v0) :: r.kv) := ha
    obtain ⟨al, ar, a3, a4⟩ := asc_node ha'
    unfold Sh.put
    split
    · rename_i hab
      obtain ⟨e1, e2⟩ := kv_split k ha
      obtain ⟨g1, g2⟩ := heap_split k (S := .node k0 v0 wt0 l r) ⟨h1, h2, h3, h4, h5⟩ ha
      have hle := heap_le (show (Sh.node k0 v0 wt0 l r).Heap from ⟨h1, h2, h3, h4, h5⟩)
      refine ⟨rfl, ?_, ?_, g1, g2⟩
      · rw [e1]
        intro p hp
        obtain ⟨hp1, hp2⟩ := List.mem_filter.1 hp
        rcases above_cases.1 hab with h | ⟨e, hk⟩
        · exact Nat.lt_of_le_of_lt (hle p hp1) h
        · have hpk : slt p.1 k0 = true := slt_trans hp2 hk
          simp only [Sh.kv, List.mem_append, List.mem_cons] at hp1
          rcases hp1 with hp1 | rfl | hp1
          · rw [e]; exact h2 p hp1
          · rw [slt_irrefl] at hpk; cases hpk
          · have := slt_trans hpk (a4 p hp1)
            rw [slt_irrefl] at this; cases this
      · rw [e2]
        intro p hp
        have hp1 := (List.mem_filter.1 hp).1
        rcases above_cases.1 hab with h | ⟨e, _⟩
        · exact Nat.le_of_lt (Nat.lt_of_le_of_lt (hle p hp1) h)
        · rw [e]; exact hle p hp1
    · rename_i hab
      have hn := above_not hab
      have hin : ∀ {M : Prs}, (∀ p ∈ M, p ∈ M) → ∀ p ∈ insL M k v, p = (k, v) ∨ p ∈ M := fun _ p hp => by
        simp only [insL, List.mem_append, List.mem_cons, List.mem_filter] at hp
        rcases hp with hp | hp | hp
        · exact .inr hp.1
        · exact .inl hp
        · exact .inr hp.1
      split
      · rename_i hk
        refine ⟨h1, ?_, h3, heap_put k v h4 al, h5⟩
        rw [kv_put k v _ al]
        intro p hp
        rcases hin (fun _ h => h) p hp with rfl | hp
        · rcases hn with h | ⟨_, e⟩
          · exact h
          · rw [hk] at e; cases e
        · exact h2 p hp
      split
      · rename_i hk
        refine ⟨h1, h2, ?_, h4, heap_put k v h5 ar⟩
        rw [kv_put k v _ ar]
        intro p hp
        rcases hin (fun _ h => h) p hp with rfl | hp
        · rcases hn with h | ⟨e, _⟩
          · exact Nat.le_of_lt h
          · rw [← e]; exact Nat.le_refl _
        · exact h3 p hp
      · rename_i hk1 hk2
        have e : k0 = k := slt_total (by simpa using hk2) (by simpa using hk1)
        subst e
        exact ⟨rfl, by rw [← h1]; exact h2, by rw [← h1]; exact h3, h4, h5⟩
theorem heap_del (k : ByteArray) : ∀ {S : Sh}, S.Heap → Asc S.kv → (S.del k).Heap
  | .nil, _, _ => trivial
  | .node k0 v0 wt0 l r, ⟨h1, h2, h3, h4, h5⟩, ha => by
    have ha' : Asc (l.kv ++ (k0, v0) :: r.kv) := ha
    obtain ⟨al, ar, a3, a4⟩ := asc_node ha'
    have hin : ∀ {M : Prs}, ∀ p ∈ rmL M k, p ∈ M := fun p hp => by
      simp only [rmL, List.mem_append, List.mem_filter] at hp
      rcases hp with hp | hp <;> exact hp.1
    unfold Sh.del
    split
    · refine ⟨h1, ?_, h3, heap_del k h4 al, h5⟩
      rw [kv_del k al]
      exact fun p hp => h2 p (hin p hp)
    split
    · refine ⟨h1, h2, ?_, h4, heap_del k h5 ar⟩
      rw [kv_del k ar]
      exact fun p hp => h3 p (hin p hp)
    · exact heap_join _ (Nat.le_refl _) h4 h5 (fun p hp q hq => slt_trans (a3 p hp) (a4 q hq))
theorem heap_step {S : Sh} (h : S.Heap) (ha : Asc S.kv) (x : TAct) : (stepSh x S).Heap := by
  unfold stepSh
  split
  · unfold delSh; split
    · exact h
    · exact heap_del _ h ha
  · unfold putSh; split
    · exact h
    · exact heap_put _ _ h ha
/-- What the document says of an act. -/
def saysL (x : TAct) (L : Prs) : Prs := if x.act.toNat = 0 then rmL L x.key else insL L x.key x.val
theorem cnt_kv : ∀ S : Sh, S.cnt = S.kv.length
  | .nil => rfl
  | .node k v wt l r => by simp only [Sh.cnt, Sh.kv, List.length_append, List.length_cons, cnt_kv l, cnt_kv r]; omega
end Go.Proofs.Ytimhpncdlaildaa
