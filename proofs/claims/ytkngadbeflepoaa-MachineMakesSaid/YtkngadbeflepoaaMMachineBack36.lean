/- Trees with their pairs, as the law TreePlays keeps them. No condition. -/
import Derived.Test.YtkngadbeflepoaaMMachineBack22
namespace Go.Proofs.Ytkngadbeflepoaa
open Go.RowKit

theorem find_look {S : Sh} (h : Asc S.kv) (k : ByteArray) : isAt S.kv k = (S.look k).isSome ∧ ∀ v, S.look k = some v → S.kv.getD (idxOf S.kv k) pdflt = (k, v) := by
  have key : ∀ v, S.look k = some v → isAt S.kv k = true ∧ S.kv.getD (idxOf S.kv k) pdflt = (k, v) := by
    intro v hv
    have hm := (look_kv k h v).1 hv
    obtain ⟨L, R, e⟩ := List.append_of_mem hm
    rw [e] at h ⊢
    obtain ⟨f1, _⟩ := filt_eq h
    obtain ⟨g1, _⟩ := idx_split k h
    have hle := idx_le (L ++ (k, v) :: R) k
    have hidx : idxOf (L ++ (k, v) :: R) k = L.length := by
      have := congrArg List.length (g1.trans f1)
      rw [List.length_take] at this
      omega
    refine ⟨?_, ?_⟩
    · unfold isAt
      rw [hidx]
      simp
    · rw [hidx, getD_right (Nat.le_refl _), Nat.sub_self]
      rfl
  refine ⟨?_, fun v hv => (key v hv).2⟩
  cases hl : S.look k with
  | some v => exact (key v hl).1
  | none =>
    show isAt S.kv k = false
    rw [Bool.eq_false_iff]
    intro hc
    have hlt := isAt_lt hc
    unfold isAt at hc
    rw [drop_pair hlt] at hc
    simp only [decide_eq_true_eq] at hc
    have hm := getD_in hlt
    generalize S.kv.getD (idxOf S.kv k) pdflt = p at *
    have := (look_kv k h p.2).2 (by rw [← hc]; exact hm)
    rw [hl] at this
    cases this

structure Ent where
  T : Tr
  A : Option Addr
  n : Nat
  c : Nat
/-- A tree and the slice of its pairs. -/
structure EntOk (w : World) (m : Nat) (e : Ent) : Prop where
  tree : TreeAt w e.T
  pairs : PairsAt w e.A e.n e.T.kvs
  ok : POk e.A e.n e.c
  ty : PTy w e.A
  asc : Asc e.T.sh.kv
  heap : e.T.sh.Heap
  few : e.T.cnt ≤ m
  keys : ∀ p ∈ e.T.kvs, p.1.size ≤ 100
/-- What an append to a row of another type turns, if anything. -/
def Elsewhere (w : World) (row : Option Nat) : Prop := ∀ g, row = some g → ∃ cs t, w.heap[g]? = some (.cells cs t (0, 0)) ∧ t ≠ 110 ∧ t ≠ 38
theorem TreeAt.grown {w w' : World} {row : Option Nat} (hg : w.grownBy w' row) (hr : Elsewhere w row) : ∀ {T : Tr}, TreeAt w T → TreeAt w' T
  | .nil, _ => trivial
  | .node b k v wt l r, ⟨h1, h2, h3⟩ => ⟨(hg.block b h1.lt (fun e => by
      obtain ⟨cs, t, h4, h5, _⟩ := hr b e.symm
      unfold NodeAt at h1
      rw [h1] at h4
      cases h4
      exact h5 rfl)).trans h1, TreeAt.grown hg hr h2, TreeAt.grown hg hr h3⟩
theorem EntOk.grown {w w' : World} {row : Option Nat} {m : Nat} {e : Ent} (h : EntOk w m e) (hg : w.grownBy w' row) (hr : Elsewhere w row) : EntOk w' m e := by
  have hty : ∀ b o, e.A = some ⟨b, o, none⟩ → w'.heap[b]? = w.heap[b]? := fun b o he => by
    obtain ⟨cs, h1⟩ := h.ty b o he
    refine hg.block b (Array.getElem?_eq_some_iff.1 h1).1 (fun e' => ?_)
    obtain ⟨cs', t, h4, _, h6⟩ := hr b e'.symm
    rw [h1] at h4
    cases h4
    exact h6 rfl
  refine ⟨h.tree.grown hg hr, ⟨h.pairs.hlen, h.pairs.hmax, fun i x hi => ?_⟩, h.ok, fun b o he => ?_, h.asc, h.heap, h.few, h.keys⟩
  · obtain ⟨b, o, e1, e2, e3⟩ := h.pairs.cells i x hi
    refine ⟨b, o, e1, Nat.lt_of_lt_of_le e2 hg.size, fun j v hj => ?_⟩
    rw [← e3 j v hj]
    simp only [World.cell?, hty b o e1]
  · obtain ⟨cs, h1⟩ := h.ty b o he
    exact ⟨cs, (hty b o he).trans h1⟩
theorem EntOk.below {w w' : World} {m : Nat} {e : Ent} (h : EntOk w m e) (hb : Below w.heap.size w w') : EntOk w' m e :=
  ⟨h.tree.below hb, h.pairs.below hb, h.ok, h.ty.below hb, h.asc, h.heap, h.few, h.keys⟩
theorem EntOk.mono {w : World} {m m' : Nat} {e : Ent} (h : EntOk w m e) (hm : m ≤ m') : EntOk w m' e := ⟨h.tree, h.pairs, h.ok, h.ty, h.asc, h.heap, Nat.le_trans h.few hm, h.keys⟩
theorem EntOk.nil (w : World) : EntOk w 0 ⟨.nil, none, 0, 0⟩ := ⟨trivial, pairs_none, .inl ⟨rfl, rfl, rfl⟩, (fun b o e => (by cases e)), List.Pairwise.nil, trivial, Nat.le_refl _, (fun p hp => (by simp [Tr.kvs, Tr.sh, Sh.kv] at hp))⟩
/-- An own row of another type lies elsewhere. -/
theorem own_elsewhere {w : World} {base n size : Nat} {t : TypeId} {v : Value} {xs : List Value} (h : w.ownsRow base t size v n xs) (h1 : t ≠ 110) (h2 : t ≠ 38) : Elsewhere w v.ownBlock := by
  intro g hg
  rcases h.2 with ⟨rfl, _⟩ | ⟨g', cap, cur, rfl, _, h3, _⟩
  · cases hg
  · simp only [Value.ownBlock, Option.some.injEq] at hg
    subst hg
    exact ⟨cur, t, h3, h1, h2⟩
theorem says_keys {x : TAct} {L : Prs} (h : ∀ p ∈ L, p.1.size ≤ 100) (hk : x.key.size ≤ 100) : ∀ p ∈ saysL x L, p.1.size ≤ 100 := by
  intro p hp
  unfold saysL at hp
  split at hp
  · simp only [rmL, List.mem_append, List.mem_filter] at hp
    rcases hp with hp | hp <;> exact h p hp.1
  · simp only [insL, List.mem_append, List.mem_cons, List.mem_filter] at hp
    rcases hp with hp | hp | hp
    · exact h p hp.1
    · rw [hp]; exact hk
    · exact h p hp.1
end Go.Proofs.Ytkngadbeflepoaa
