/- Plain laws on the elements of what differs between two lists of pairs in order. No condition. -/
import Derived.Test.YtimhpncdlaildaaTrW
namespace Go.Proofs.Ytimhpncdlaildaa
open Go.RowKit

theorem asc_cons {p : ByteArray × ByteArray} {L : Prs} (h : Asc (p :: L)) : (∀ q ∈ L, slt p.1 q.1 = true) ∧ Asc L := List.pairwise_cons.1 h
/-- Each change is of a key that one of both has. -/
theorem diff_keys : ∀ (n : Nat) {A B : Prs} {c : Chg}, A.length + B.length ≤ n → c ∈ diffL A B → (∃ v, (c.key, v) ∈ A) ∨ ∃ v, (c.key, v) ∈ B
  | n, [], [], c, _, h => by rw [diff_nil_nil] at h; simp at h
  | 0, p :: A, _, c, h, _ => by simp at h
  | 0, [], q :: B, c, h, _ => by simp at h
  | n + 1, p :: A, [], c, h, hc => by
    rw [diff_cons_nil] at hc
    rcases List.mem_cons.1 hc with rfl | hc
    · exact .inl ⟨p.2, by simp [cDel]⟩
    · rcases diff_keys n (by simpa using h) hc with ⟨v, h1⟩ | ⟨v, h1⟩
      · exact .inl ⟨v, by simp [h1]⟩
      · exact .inr ⟨v, h1⟩
  | n + 1, [], q :: B, c, h, hc => by
    rw [diff_nil_cons] at hc
    rcases List.mem_cons.1 hc with rfl | hc
    · exact .inr ⟨q.2, by simp [cAdd]⟩
    · rcases diff_keys n (by simpa using h) hc with ⟨v, h1⟩ | ⟨v, h1⟩
      · exact .inl ⟨v, h1⟩
      · exact .inr ⟨v, by simp [h1]⟩
  | n + 1, p :: A, q :: B, c, h, hc => by
    simp only [List.length_cons] at h
    rw [diff_cons_cons] at hc
    split at hc
    · rcases List.mem_cons.1 hc with rfl | hc
      · exact .inl ⟨p.2, by simp [cDel]⟩
      · rcases diff_keys n (by simp; omega) hc with ⟨v, h1⟩ | ⟨v, h1⟩
        · exact .inl ⟨v, by simp [h1]⟩
        · exact .inr ⟨v, h1⟩
    split at hc
    · rcases List.mem_cons.1 hc with rfl | hc
      · exact .inr ⟨q.2, by simp [cAdd]⟩
      · rcases diff_keys n (by simp; omega) hc with ⟨v, h1⟩ | ⟨v, h1⟩
        · exact .inl ⟨v, h1⟩
        · exact .inr ⟨v, by simp [h1]⟩
    split at hc
    · rcases diff_keys n (by omega) hc with ⟨v, h1⟩ | ⟨v, h1⟩
      · exact .inl ⟨v, by simp [h1]⟩
      · exact .inr ⟨v, by simp [h1]⟩
    · rcases List.mem_cons.1 hc with rfl | hc
      · exact .inl ⟨p.2, by simp⟩
      · rcases diff_keys n (by omega) hc with ⟨v, h1⟩ | ⟨v, h1⟩
        · exact .inl ⟨v, by simp [h1]⟩
        · exact .inr ⟨v, by simp [h1]⟩
theorem diff_above {k : ByteArray} {A B : Prs} {c : Chg} (hA : ∀ q ∈ A, slt k q.1 = true) (hB : ∀ q ∈ B, slt k q.1 = true) (h : c ∈ diffL A B) : slt k c.key = true := by
  rcases diff_keys _ (Nat.le_refl _) h with ⟨v, h1⟩ | ⟨v, h1⟩
  · exact hA _ h1
  · exact hB _ h1
/-- One side of a change, against the pairs. -/
def SideOk (A : Prs) (k v : ByteArray) (b : Bool) : Prop := (b = true ∧ (k, v) ∈ A) ∨ (b = false ∧ v = ByteArray.empty ∧ ∀ u, (k, u) ∉ A)
theorem SideOk.cons {A : Prs} {k v : ByteArray} {b : Bool} {p : ByteArray × ByteArray} (h : SideOk A k v b) (hp : slt p.1 k = true) : SideOk (p :: A) k v b := by
  rcases h with ⟨h1, h2⟩ | ⟨h1, h2, h3⟩
  · exact .inl ⟨h1, by simp [h2]⟩
  · refine .inr ⟨h1, h2, fun u hu => ?_⟩
    rcases List.mem_cons.1 hu with h4 | h4
    · rw [← h4, slt_irrefl] at hp; cases hp
    · exact h3 u h4
theorem SideOk.none {A : Prs} {k : ByteArray} (h : ∀ q ∈ A, slt k q.1 = true) : SideOk A k ByteArray.empty false :=
  .inr ⟨rfl, rfl, fun u hu => by have := h _ hu; rw [slt_irrefl] at this; cases this⟩
structure ElemOk (A B : Prs) (c : Chg) : Prop where
  a : SideOk A c.key c.old c.had
  b : SideOk B c.key c.new c.has
  r : c.real = true
theorem slt_or {a b : ByteArray} (h : ¬ slt a b = true) (k : ¬ slt b a = true) : a = b := slt_total (by simpa using h) (by simpa using k)
theorem diff_elem : ∀ (n : Nat) {A B : Prs}, A.length + B.length ≤ n → Asc A → Asc B → (∀ c ∈ diffL A B, ElemOk A B c) ∧ (diffL A B).Pairwise (fun c d => slt c.key d.key = true)
  | n, [], [], _, _, _ => by rw [diff_nil_nil]; exact ⟨fun c hc => (by simp at hc), List.Pairwise.nil⟩
  | 0, p :: A, _, h, _, _ => by simp at h
  | 0, [], q :: B, h, _, _ => by simp at h
  | n + 1, p :: A, [], h, hA, hB => by
    obtain ⟨h1, h2⟩ := asc_cons hA
    obtain ⟨i1, i2⟩ := diff_elem n (A := A) (B := []) (by simpa using h) h2 hB
    rw [diff_cons_nil]
    have hab : ∀ c ∈ diffL A [], slt p.1 c.key = true := fun c hc => diff_above h1 (fun q hq => by simp at hq) hc
    refine ⟨fun c hc => ?_, List.pairwise_cons.2 ⟨hab, i2⟩⟩
    rcases List.mem_cons.1 hc with rfl | hc
    · exact ⟨.inl ⟨rfl, by simp [cDel]⟩, .none (fun q hq => by simp at hq), rfl⟩
    · exact ⟨(i1 c hc).a.cons (hab c hc), (i1 c hc).b, (i1 c hc).r⟩
  | n + 1, [], q :: B, h, hA, hB => by
    obtain ⟨h1, h2⟩ := asc_cons hB
    obtain ⟨i1, i2⟩ := diff_elem n (A := []) (B := B) (by simpa using h) hA h2
    rw [diff_nil_cons]
    have hab : ∀ c ∈ diffL [] B, slt q.1 c.key = true := fun c hc => diff_above (fun q hq => by simp at hq) h1 hc
    refine ⟨fun c hc => ?_, List.pairwise_cons.2 ⟨hab, i2⟩⟩
    rcases List.mem_cons.1 hc with rfl | hc
    · exact ⟨.none (fun q hq => by simp at hq), .inl ⟨rfl, by simp [cAdd]⟩, rfl⟩
    · exact ⟨(i1 c hc).a, (i1 c hc).b.cons (hab c hc), (i1 c hc).r⟩
  | n + 1, p :: A, q :: B, h, hA, hB => by
    simp only [List.length_cons] at h
    obtain ⟨h1, h2⟩ := asc_cons hA
    obtain ⟨g1, g2⟩ := asc_cons hB
    rw [diff_cons_cons]
    by_cases hpq : slt p.1 q.1 = true
    · rw [if_pos hpq]
      have hall : ∀ x ∈ q :: B, slt p.1 x.1 = true := fun x hx => by
        rcases List.mem_cons.1 hx with rfl | hx
        · exact hpq
        · exact slt_trans hpq (g1 x hx)
      obtain ⟨i1, i2⟩ := diff_elem n (A := A) (B := q :: B) (by simp; omega) h2 hB
      have hab : ∀ c ∈ diffL A (q :: B), slt p.1 c.key = true := fun c hc => diff_above h1 hall hc
      refine ⟨fun c hc => ?_, List.pairwise_cons.2 ⟨hab, i2⟩⟩
      rcases List.mem_cons.1 hc with rfl | hc
      · exact ⟨.inl ⟨rfl, by simp [cDel]⟩, .none hall, rfl⟩
      · exact ⟨(i1 c hc).a.cons (hab c hc), (i1 c hc).b, (i1 c hc).r⟩
    rw [if_neg hpq]
    by_cases hqp : slt q.1 p.1 = true
    · rw [if_pos hqp]
      have hall : ∀ x ∈ p :: A, slt q.1 x.1 = true := fun x hx => by
        rcases List.mem_cons.1 hx with rfl | hx
        · exact hqp
        · exact slt_trans hqp (h1 x hx)
      obtain ⟨i1, i2⟩ := diff_elem n (A := p :: A) (B := B) (by simp; omega) hA g2
      have hab : ∀ c ∈ diffL (p :: A) B, slt q.1 c.key = true := fun c hc => diff_above hall g1 hc
      refine ⟨fun c hc => ?_, List.pairwise_cons.2 ⟨hab, i2⟩⟩
      rcases List.mem_cons.1 hc with rfl | hc
      · exact ⟨.none hall, .inl ⟨rfl, by simp [cAdd]⟩, rfl⟩
      · exact ⟨(i1 c hc).a, (i1 c hc).b.cons (hab c hc), (i1 c hc).r⟩
    rw [if_neg hqp]
    have he : p.1 = q.1 := slt_or hpq hqp
    obtain ⟨i1, i2⟩ := diff_elem n (A := A) (B := B) (by omega) h2 g2
    have hab : ∀ c ∈ diffL A B, slt p.1 c.key = true := fun c hc => diff_above h1 (fun x hx => by rw [he]; exact g1 x hx) hc
    have hin : ∀ c ∈ diffL A B, ElemOk (p :: A) (q :: B) c := fun c hc => ⟨(i1 c hc).a.cons (hab c hc), (i1 c hc).b.cons (by rw [← he]; exact hab c hc), (i1 c hc).r⟩
    by_cases hv : p.2 = q.2
    · rw [if_pos hv]
      exact ⟨hin, i2⟩
    · rw [if_neg hv]
      refine ⟨fun c hc => ?_, List.pairwise_cons.2 ⟨hab, i2⟩⟩
      rcases List.mem_cons.1 hc with rfl | hc
      · refine ⟨.inl ⟨rfl, by simp⟩, .inl ⟨rfl, ?_⟩, by simp [Chg.real, hv]⟩
        show (p.1, q.2) ∈ q :: B
        rw [he]
        simp
      · exact hin c hc
/-- A change, against two trees. -/
theorem diff_look {S U : Sh} (hS : Asc S.kv) (hU : Asc U.kv) {c : Chg} (hc : c ∈ diffL S.kv U.kv) : c = chgOf c.key (S.look c.key) (U.look c.key) ∧ c.real = true := by
  have h := (diff_elem _ (Nat.le_refl _) hS hU).1 c hc
  have side : ∀ {V : Sh} (_ : Asc V.kv) {v : ByteArray} {b : Bool}, SideOk V.kv c.key v b → v = (V.look c.key).getD ByteArray.empty ∧ b = (V.look c.key).isSome := fun {V} hV {v b} hs => by
    rcases hs with ⟨h1, h2⟩ | ⟨h1, h2, h3⟩
    · rw [(look_kv c.key hV v).2 h2]
      exact ⟨rfl, h1⟩
    · have hn : V.look c.key = none := by
        cases hl : V.look c.key with
        | none => rfl
        | some u => exact absurd ((look_kv c.key hV u).1 hl) (h3 u)
      rw [hn]
      exact ⟨h2, h1⟩
  obtain ⟨a1, a2⟩ := side hS h.a
  obtain ⟨b1, b2⟩ := side hU h.b
  refine ⟨?_, h.r⟩
  unfold chgOf
  rw [← a1, ← a2, ← b1, ← b2]
/-- The last key so far. -/
def lastOf (l : List ByteArray) : ByteArray := l.getLast?.getD ByteArray.empty
theorem rising {α : Type} (f : α → ByteArray) {p : List α} {x : α} {D : List α} (hD : D.Pairwise (fun c d => slt (f c) (f d) = true)) (h : p ++ [x] <+: D) : p = [] ∨ slt (lastOf (p.map f)) (f x) = true := by
  obtain ⟨s, rfl⟩ := h
  rcases List.eq_nil_or_concat p with rfl | ⟨q, y, rfl⟩
  · exact .inl rfl
  · refine .inr ?_
    have h1 := (List.pairwise_append.1 hD).1
    have h2 := (List.pairwise_append.1 h1).2.2 y (by simp) x (by simp)
    unfold lastOf
    simp
    exact h2
theorem lastOf_snoc (l : List ByteArray) (k : ByteArray) : lastOf (l ++ [k]) = k := by simp [lastOf]
theorem asc_map {L : Prs} (h : Asc L) : L.Pairwise (fun c d => slt c.1 d.1 = true) := h
end Go.Proofs.Ytimhpncdlaildaa
