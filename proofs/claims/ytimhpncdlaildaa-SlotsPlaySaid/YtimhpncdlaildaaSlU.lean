/- Plain laws: the program's row of slots and the document's have the same; what both are behind each act. No condition. -/
import Derived.Test.YtimhpncdlaildaaSlT
import Derived.Test.YtimhpncdlaildaaSlJ
namespace Go.Proofs.Ytimhpncdlaildaa
open Go.RowKit

def Rising (L : Its) : Prop := L.Pairwise fun p q => p.1.toNat < q.1.toNat
theorem rising_ext : ∀ {L M : Its}, Rising L → Rising M → (∀ p, p ∈ L ↔ p ∈ M) → L = M
  | [], [], _, _, _ => rfl
  | [], b :: M, _, _, h => absurd ((h b).2 (by simp)) (by simp)
  | a :: L, [], _, _, h => absurd ((h a).1 (by simp)) (by simp)
  | a :: L, b :: M, hL, hM, h => by
    obtain ⟨hL1, hL2⟩ := List.pairwise_cons.1 hL
    obtain ⟨hM1, hM2⟩ := List.pairwise_cons.1 hM
    have hab : a = b := by
      rcases List.mem_cons.1 ((h a).1 (by simp)) with e | h1
      · exact e
      · rcases List.mem_cons.1 ((h b).2 (by simp)) with e | h2
        · exact e.symm
        · have := hL1 b h2; have := hM1 a h1; omega
    subst hab
    rw [rising_ext hL2 hM2 fun p => ?_]
    constructor
    · intro hp
      rcases List.mem_cons.1 ((h p).1 (by simp [hp])) with e | h1
      · subst e; exact absurd (hL1 p hp) (by omega)
      · exact h1
    · intro hp
      rcases List.mem_cons.1 ((h p).2 (by simp [hp])) with e | h1
      · subst e; exact absurd (hM1 p hp) (by omega)
      · exact h1
theorem mget_mem : ∀ {L : Its}, Rising L → ∀ {k : BitVec 64} {v : ByteArray}, mget L k = some v ↔ (k, v) ∈ L
  | [], _, k, v => by simp [mget_nil]
  | a :: L, hL, k, v => by
    obtain ⟨hL1, hL2⟩ := List.pairwise_cons.1 hL
    rw [mget_cons, List.mem_cons]
    by_cases e : a.1 = k
    · rw [if_pos e]
      constructor
      · intro h
        left
        rw [← e]
        cases h
        rfl
      · rintro (h | h)
        · rw [← h]
        · have := hL1 _ h
          rw [e] at this
          exact absurd this (by simp)
    · rw [if_neg e, mget_mem hL2]
      constructor
      · exact .inr
      · rintro (h | h)
        · exact absurd (by rw [← h]) e
        · exact h
theorem mem_some {L : Its} {p : BitVec 64 × ByteArray} (h : p ∈ L) : (mget L p.1).isSome := by
  simp only [mget, Option.isSome_map, List.find?_isSome, decide_eq_true_eq]
  exact ⟨p, h, rfl⟩
theorem insS_nil (x : BitVec 64) (v : ByteArray) : insS [] x v = [(x, v)] := rfl
theorem insS_cons (a : BitVec 64 × ByteArray) (L : Its) (x : BitVec 64) (v : ByteArray) : insS (a :: L) x v = if a.1.toNat < x.toNat then a :: insS L x v else (x, v) :: a :: L := by
  unfold insS
  by_cases h : a.1.toNat < x.toNat
  · rw [if_pos h, List.takeWhile_cons_of_pos (by simpa [lowB] using h), List.dropWhile_cons_of_pos (by simpa [lowB] using h)]
    rfl
  · rw [if_neg h, List.takeWhile_cons_of_neg (by simpa [lowB] using h), List.dropWhile_cons_of_neg (by simpa [lowB] using h)]
    rfl
theorem insS_mem {L : Its} {x : BitVec 64} {v : ByteArray} (p : BitVec 64 × ByteArray) : p ∈ insS L x v ↔ p = (x, v) ∨ p ∈ L := by
  induction L with
  | nil => simp [insS_nil]
  | cons a L ih =>
    rw [insS_cons]
    split
    · rw [List.mem_cons, ih, List.mem_cons]
      constructor
      · rintro (h | h | h)
        · exact .inr (.inl h)
        · exact .inl h
        · exact .inr (.inr h)
      · rintro (h | h | h)
        · exact .inr (.inl h)
        · exact .inl h
        · exact .inr (.inr h)
    · rw [List.mem_cons]
theorem insS_len {L : Its} {x : BitVec 64} {v : ByteArray} : (insS L x v).length = L.length + 1 := by
  induction L with
  | nil => rfl
  | cons a L ih =>
    rw [insS_cons]
    split
    · simp [ih]
    · rfl
theorem insS_rising : ∀ {L : Its} {x : BitVec 64} {v : ByteArray}, Rising L → mget L x = none → Rising (insS L x v)
  | [], x, v, _, _ => by simp [insS_nil, Rising]
  | a :: L, x, v, hL, hx => by
    obtain ⟨hL1, hL2⟩ := List.pairwise_cons.1 hL
    rw [mget_cons] at hx
    by_cases e : a.1 = x
    · rw [if_pos e] at hx; cases hx
    rw [if_neg e] at hx
    rw [insS_cons]
    split
    · rename_i h
      refine List.pairwise_cons.2 ⟨fun p hp => ?_, insS_rising hL2 hx⟩
      rcases (insS_mem p).1 hp with rfl | hp
      · exact h
      · exact hL1 p hp
    · rename_i h
      have hne : a.1.toNat ≠ x.toNat := fun he => e (BitVec.eq_of_toNat_eq he)
      refine List.pairwise_cons.2 ⟨fun p hp => ?_, hL⟩
      rcases List.mem_cons.1 hp with rfl | hp
      · show x.toNat < p.1.toNat; omega
      · have := hL1 p hp
        show x.toNat < p.1.toNat; omega

/-- The two rows have the same. -/
structure Rel (s : SRow) (L : Its) (m : Nat) : Prop where
  rise : Rising L
  get : ∀ k, mget L k = mget s.l k
  low : ∀ k, (mget s.l k).isSome → s.base.toNat < k.toNat
  last : s.top.toNat < s.last.toNat → (mget s.l s.last).isSome
  high : ∀ k, (mget s.l k).isSome → k.toNat ≤ s.last.toNat
  len : L.length ≤ m
theorem Rel.new (b : BitVec 64) : Rel ⟨b, b, 0#64, []⟩ [] 0 :=
  ⟨.nil, fun _ => rfl, fun k h => by simp [mget_nil] at h, fun h => absurd h (by simp), fun k h => by simp [mget_nil] at h, Nat.le_refl _⟩
theorem Rel.mono {s : SRow} {L : Its} {m m' : Nat} (h : Rel s L m) (hm : m ≤ m') : Rel s L m' := ⟨h.rise, h.get, h.low, h.last, h.high, Nat.le_trans h.len hm⟩
theorem Rel.mem {s : SRow} {L : Its} {m : Nat} (h : Rel s L m) (p : BitVec 64 × ByteArray) : p ∈ L ↔ mget s.l p.1 = some p.2 := by
  rw [← h.get, mget_mem h.rise]
theorem filter_get (L : Its) (x k : BitVec 64) : mget (L.filter fun p => decide (x.toNat < p.1.toNat)) k = if k.toNat ≤ x.toNat then none else mget L k := by
  rw [mget_filter L (fun k => decide (x.toNat < k.toNat)) k]
  by_cases h : k.toNat ≤ x.toNat
  · rw [if_pos h, if_neg (by simp; omega)]
  · rw [if_neg h, if_pos (by simp; omega)]
/-- Cut off up to x. -/
theorem Rel.cut {s : SRow} {L : Its} {m : Nat} (h : Rel s L m) (x t : BitVec 64) (ht : s.top.toNat ≤ t.toNat) (hx : x.toNat ≤ t.toNat) : Rel { cutS s x with base := x, top := t } (L.filter fun p => decide (x.toNat < p.1.toNat)) m := by
  refine ⟨h.rise.filter _, fun k => ?_, fun k hk => ?_, fun hl => ?_, fun k hk => ?_, Nat.le_trans (List.length_filter_le _ _) h.len⟩
  · show _ = mget (cutS s x).l k
    rw [cutS_get, filter_get, h.get]
  · have hk' : (mget (cutS s x).l k).isSome := hk
    rw [cutS_get] at hk'
    split at hk'
    · cases hk'
    · show x.toNat < k.toNat; omega
  · have hl' : t.toNat < s.last.toNat := hl
    show (mget (cutS s x).l s.last).isSome
    rw [cutS_get, if_neg (by omega)]
    exact h.last (by omega)
  · have hk' : (mget (cutS s x).l k).isSome := hk
    rw [cutS_get] at hk'
    split at hk'
    · cases hk'
    · exact h.high k hk'

theorem Rel.keep {s : SRow} {L : Its} {m : Nat} (h : Rel s L m) (hbt : s.base.toNat ≤ s.top.toNat) (x : BitVec 64) : ∃ L', Rel (keepS s x) L' m ∧
    ((s.top.toNat < x.toNat ∧ errKeep s x = 2 ∧ (keepS s x).base = s.base ∧ L' = L) ∨ (¬ s.top.toNat < x.toNat ∧ x.toNat ≤ s.base.toNat ∧ errKeep s x = 0 ∧ (keepS s x).base = s.base ∧ L' = L) ∨
      (¬ s.top.toNat < x.toNat ∧ ¬ x.toNat ≤ s.base.toNat ∧ errKeep s x = 0 ∧ (keepS s x).base = x ∧ L' = L.filter fun p => decide (x.toNat < p.1.toNat))) := by
  unfold keepS errKeep
  by_cases h1 : s.top.toNat < x.toNat
  · rw [if_pos h1, if_pos h1]
    exact ⟨L, h, .inl ⟨h1, rfl, rfl, rfl⟩⟩
  · rw [if_neg h1, if_neg h1]
    by_cases h2 : x.toNat ≤ s.base.toNat
    · have hm : maxB s.base x = s.base := by rw [maxB, if_neg (by omega)]
      rw [hm]
      refine ⟨L, ?_, .inr (.inl ⟨h1, h2, rfl, rfl, rfl⟩)⟩
      have hg : ∀ k, mget (cutS s s.base).l k = mget s.l k := fun k => by
        rw [cutS_get]
        split
        · rename_i hk
          cases hv : mget s.l k with
          | none => rfl
          | some v => have := h.low k (by rw [hv]; rfl); omega
        · rfl
      exact ⟨h.rise, fun k => (h.get k).trans (hg k).symm, fun k hk => h.low k (by rw [← hg k]; exact hk), fun hl => by
        show (mget (cutS s s.base).l s.last).isSome
        rw [hg]
        exact h.last hl, fun k hk => h.high k (by rw [← hg k]; exact hk), h.len⟩
    · have hm : maxB s.base x = x := by rw [maxB, if_pos (by omega)]
      rw [hm]
      exact ⟨_, h.cut x s.top (Nat.le_refl _) (by omega), .inr (.inr ⟨h1, h2, rfl, rfl, rfl⟩)⟩
theorem Rel.jump {s : SRow} {L : Its} {m : Nat} (h : Rel s L m) (x : BitVec 64) : ∃ L', Rel (jumpS s x) L' m ∧
    (((x.toNat < s.top.toNat ∨ 4611686018427387904 < x.toNat) ∧ errJump s x = 2 ∧ (jumpS s x).base = s.base ∧ (jumpS s x).top = s.top ∧ L' = L) ∨
      (¬ (x.toNat < s.top.toNat ∨ 4611686018427387904 < x.toNat) ∧ errJump s x = 0 ∧ (jumpS s x).base = x ∧ (jumpS s x).top = x ∧ L' = L.filter fun p => decide (x.toNat < p.1.toNat))) := by
  unfold jumpS errJump
  by_cases h1 : 4611686018427387904 < x.toNat ∨ x.toNat < s.top.toNat
  · rw [if_pos h1, if_pos h1]
    exact ⟨L, h, .inl ⟨h1.symm, rfl, rfl, rfl, rfl⟩⟩
  · rw [if_neg h1, if_neg h1]
    exact ⟨_, h.cut x x (by omega) (Nat.le_refl _), .inr ⟨fun hc => h1 hc.symm, rfl, rfl, rfl, rfl⟩⟩
theorem Rel.put {s : SRow} {L : Its} {m : Nat} (h : Rel s L m) (x : BitVec 64) (v : ByteArray) : ∃ L', Rel (putS s x v) L' (m + 1) ∧
    ((¬ (1 ≤ x.toNat ∧ x.toNat ≤ 4611686018427387904) ∧ errPut s x v = 2 ∧ L' = L) ∨ ((1 ≤ x.toNat ∧ x.toNat ≤ 4611686018427387904) ∧ x.toNat ≤ s.base.toNat ∧ errPut s x v = 0 ∧ L' = L) ∨
      ((1 ≤ x.toNat ∧ x.toNat ≤ 4611686018427387904) ∧ ¬ x.toNat ≤ s.base.toNat ∧ (∃ o, mget L x = some o ∧ ((o = v ∧ errPut s x v = 0) ∨ (o ≠ v ∧ errPut s x v = 14))) ∧ L' = L) ∨
      ((1 ≤ x.toNat ∧ x.toNat ≤ 4611686018427387904) ∧ ¬ x.toNat ≤ s.base.toNat ∧ mget L x = none ∧ errPut s x v = 0 ∧ L' = insS L x v)) := by
  have hm := h.mono (Nat.le_succ m)
  have hmax : (maxB s.last x).toNat = max s.last.toNat x.toNat := maxB_toNat _ _
  by_cases h1 : x.toNat = 0 ∨ 4611686018427387904 < x.toNat
  · exact ⟨L, by unfold putS; rw [if_pos h1]; exact hm, .inl ⟨by omega, by unfold errPut; rw [if_pos h1], rfl⟩⟩
  by_cases h2 : x.toNat ≤ s.base.toNat
  · exact ⟨L, by unfold putS; rw [if_neg h1, if_pos h2]; exact hm, .inr (.inl ⟨by omega, h2, by unfold errPut; rw [if_neg h1, if_pos h2], rfl⟩)⟩
  have ht := (putS_top s x v).1
  have hb := (putS_top s x v).2
  have hg := putS_get s x v
  have hget := h.get x
  cases hv : mget s.l x with
  | some o =>
    rw [hv] at hget hg
    have hg' : ∀ k, mget (putS s x v).l k = mget s.l k := fun k => by rw [hg]; rw [if_neg (by rintro ⟨_, _, _, _, e⟩; cases e)]
    refine ⟨L, ?_, .inr (.inr (.inl ⟨by omega, h2, ⟨o, hget, ?_⟩, rfl⟩))⟩
    · have hlast : (putS s x v).last = s.last ∨ (putS s x v).last = maxB s.last x := by
        unfold putS
        rw [if_neg h1, if_neg h2]
        split
        · exact .inl rfl
        · exact .inr rfl
      have hmx : maxB s.last x = s.last := by
        have := h.high x (by rw [hv]; rfl)
        rw [maxB, if_neg (by omega)]
      have hl : (putS s x v).last = s.last := by rcases hlast with e | e <;> rw [e]; exact hmx
      exact ⟨h.rise, fun k => by rw [hg']; exact h.get k, fun k hk => by rw [hb]; exact h.low k (by rw [← hg' k]; exact hk), fun hlt => by
        rw [hl, hg']
        rw [hl, ht] at hlt
        exact h.last hlt, fun k hk => by rw [hl]; exact h.high k (by rw [← hg' k]; exact hk), hm.len⟩
    · unfold errPut
      rw [if_neg h1, if_neg h2, hv]
      by_cases e : o = v
      · exact .inl ⟨e, if_pos e⟩
      · exact .inr ⟨e, if_neg e⟩
  | none =>
    rw [hv] at hget
    have hlast : (putS s x v).last = maxB s.last x := by
      unfold putS
      rw [if_neg h1, if_neg h2, hv]
      rfl
    refine ⟨insS L x v, ?_, .inr (.inr (.inr ⟨by omega, h2, hget, ?_, rfl⟩))⟩
    · have hr := insS_rising (v := v) h.rise hget
      have hgk : ∀ k, mget (putS s x v).l k = if x = k then some v else mget s.l k := fun k => by
        rw [hg]
        by_cases e : x = k
        · rw [if_pos e, if_pos ⟨e, by omega, by omega, by omega, hv⟩]
        · rw [if_neg e, if_neg (fun hc => e hc.1)]
      refine ⟨hr, fun k => ?_, fun k hk => ?_, fun hlt => ?_, fun k hk => ?_, by rw [insS_len]; have := h.len; omega⟩
      · rw [hgk]
        by_cases e : x = k
        · subst e
          rw [if_pos rfl, mget_mem hr, insS_mem]
          exact .inl rfl
        · rw [if_neg e, ← h.get k]
          apply Option.ext
          intro u
          rw [mget_mem hr, mget_mem h.rise, insS_mem]
          constructor
          · rintro (hc | hc)
            · exact absurd (congrArg Prod.fst hc).symm e
            · exact hc
          · exact .inr
      · rw [hb]
        rw [hgk] at hk
        split at hk
        · rename_i e; rw [← e]; omega
        · exact h.low k hk
      · rw [hlast, hgk]
        rw [hlast, ht] at hlt
        by_cases e : x = maxB s.last x
        · rw [if_pos e]; rfl
        · rw [if_neg e]
          have : maxB s.last x = s.last := by
            unfold maxB at e ⊢
            by_cases hc : s.last.toNat < x.toNat
            · rw [if_pos hc] at e; exact absurd rfl e
            · rw [if_neg hc]
          rw [this] at hlt ⊢
          exact h.last hlt
      · rw [hlast, hmax]
        rw [hgk] at hk
        split at hk
        · rename_i e; rw [← e]; omega
        · have := h.high k hk; omega
    · unfold errPut
      rw [if_neg h1, if_neg h2, hv]
theorem Rel.next {s : SRow} {L : Its} {m : Nat} (h : Rel s L m) (hm : s.top.toNat ≤ 4611686018427387904) : Rel (nextS s) L m := by
  unfold nextS
  split
  · rename_i hi
    have hh := h.high _ hi
    exact ⟨h.rise, h.get, h.low, fun hl => by
      have hl' : (s.top + 1#64).toNat < s.last.toNat := hl
      exact h.last (by have := top_succ hm; omega), h.high, h.len⟩
  · exact h

theorem getD_last {L : Its} (h : 0 < L.length) : L.getD (L.length - 1) dflt ∈ L := by
  rw [List.getD, List.getElem?_eq_getElem (by omega)]
  exact List.getElem_mem _
theorem rising_last {L : Its} (h : Rising L) {p : BitVec 64 × ByteArray} (hp : p ∈ L) : p.1.toNat ≤ (L.getD (L.length - 1) dflt).1.toNat := by
  obtain ⟨i, hi, rfl⟩ := List.getElem_of_mem hp
  rw [List.getD, List.getElem?_eq_getElem (by omega)]
  by_cases e : i = L.length - 1
  · subst e; exact Nat.le_refl _
  · exact Nat.le_of_lt (List.pairwise_iff_getElem.1 h i (L.length - 1) hi (by omega) (by omega))
theorem Rel.lastS {s : SRow} {L : Its} {m : Nat} (h : Rel s L m) : refLastS L s.top = (maxB s.last s.top).toNat := by
  have hmax : (maxB s.last s.top).toNat = max s.last.toNat s.top.toNat := maxB_toNat _ _
  unfold refLastS
  rw [hmax]
  have hkey : s.top.toNat < s.last.toNat → 0 < L.length ∧ s.last.toNat ≤ (L.getD (L.length - 1) dflt).1.toNat := fun hlt => by
    have h1 := h.last hlt
    obtain ⟨v, hv⟩ := Option.isSome_iff_exists.1 h1
    have hmem : (s.last, v) ∈ L := (h.mem _).2 hv
    exact ⟨List.length_pos_of_mem hmem, rising_last h.rise hmem⟩
  have hle : 0 < L.length → (L.getD (L.length - 1) dflt).1.toNat ≤ s.last.toNat := fun hp => by
    have := (h.mem _).1 (getD_last hp)
    exact h.high _ (by rw [this]; rfl)
  split
  · rename_i hc
    have := hle hc.1
    have := (hkey (by omega)).2
    omega
  · rename_i hc
    by_cases hlt : s.top.toNat < s.last.toNat
    · obtain ⟨h1, h2⟩ := hkey hlt
      exact absurd ⟨h1, by omega⟩ hc
    · omega

theorem itemsL_rising {s : SRow} {lo : Nat} : ∀ {c : Nat}, lo + c ≤ 18446744073709551616 → Rising (itemsL s lo c) := by
  intro c hc
  unfold itemsL Rising
  rw [List.pairwise_map]
  refine List.Pairwise.imp_of_mem ?_ List.pairwise_lt_range
  intro a b ha hb hab
  rw [List.mem_range] at ha hb
  show (slotAt (lo + a)).toNat < (slotAt (lo + b)).toNat
  rw [slotAt_toNat (by omega), slotAt_toNat (by omega)]
  omega
theorem itemsL_take (s : SRow) (lo c m : Nat) : (itemsL s lo c).take m = itemsL s lo (min m c) := by
  unfold itemsL
  rw [← List.map_take, List.take_range]
/-- The slots that both tell. -/
theorem Rel.items {s : SRow} {L : Its} {m k : Nat} (h : Rel s L m) (hf : Fit s k) (fr : BitVec 64) (most : Int) : refItemsS L fr s.top most = itemsL s (itemsFrom s fr) (itemsCount s fr most) := by
  have hlo : itemsFrom s fr = max fr.toNat (s.base.toNat + 1) := rfl
  have htm := hf.tm
  have hfr := fr.isLt
  have hbt := hf.bt
  have key : L.filter (inB fr s.top) = itemsL s (itemsFrom s fr) (s.top.toNat + 1 - itemsFrom s fr) := by
    by_cases hz : s.top.toNat + 1 - itemsFrom s fr = 0
    · rw [hz]
      show _ = []
      rw [List.filter_eq_nil_iff]
      intro p hp hc
      have h1 := h.low p.1 (by rw [(h.mem p).1 hp]; rfl)
      simp only [inB, Bool.and_eq_true, decide_eq_true_eq] at hc
      omega
    refine rising_ext (h.rise.filter _) (itemsL_rising (by omega)) fun p => ?_
    rw [List.mem_filter, h.mem]
    simp only [itemsL, List.mem_map, List.mem_range, inB, Bool.and_eq_true, decide_eq_true_eq]
    constructor
    · rintro ⟨h1, h2, h3⟩
      have h4 := h.low p.1 (by rw [h1]; rfl)
      refine ⟨p.1.toNat - itemsFrom s fr, by omega, ?_⟩
      have e : slotAt (itemsFrom s fr + (p.1.toNat - itemsFrom s fr)) = p.1 := by
        apply BitVec.eq_of_toNat_eq
        rw [slotAt_toNat (by have := p.1.isLt; omega)]
        omega
      rw [e, h1]
      rfl
    · rintro ⟨i, hi, rfl⟩
      have e := slotAt_toNat (show itemsFrom s fr + i < 18446744073709551616 by omega)
      have hs := hf.all (slotAt (itemsFrom s fr + i)) (by rw [e]; omega) (by rw [e]; omega)
      obtain ⟨u, hu⟩ := Option.isSome_iff_exists.1 hs
      refine ⟨by rw [hu]; rfl, by rw [e]; omega, by rw [e]; omega⟩
  unfold refItemsS
  rw [key, itemsL_take]
  unfold itemsCount
  rw [Nat.min_comm]
end Go.Proofs.Ytimhpncdlaildaa
