/- One map has one shape, plain: what the law TreeOne keeps from loop to loop. No condition but the keys' order and the heap's. -/
import Derived.Test.YtkngadbeflepoaaMMachineBack25
import Derived.Test.YtkngadbeflepoaaMMachineBack22
import Derived.Test.YtkngadbeflepoaaMMachineBack4
import Derived.Test.YtkngadbeflepoaaMMachineBack35
import Derived.Test.YtkngadbeflepoaaMMachineBack38
import Derived.Test.YtkngadbeflepoaaMMachineBack39
namespace Go.Proofs.Ytkngadbeflepoaa.One
open Go.RowKit

theorem mget_nil {α β : Type} [DecidableEq α] (k : α) : mget ([] : List (α × β)) k = none := rfl
theorem mget_cons {α β : Type} [DecidableEq α] (p : α × β) (l : List (α × β)) (k : α) : mget (p :: l) k = if p.1 = k then some p.2 else mget l k := by
  simp only [mget, List.find?_cons]
  by_cases h : p.1 = k <;> simp [h]
theorem mget_append {α β : Type} [DecidableEq α] (l m : List (α × β)) (k : α) : mget (l ++ m) k = (mget l k).or (mget m k) := by
  induction l with
  | nil => simp [mget_nil]
  | cons p l ih => rw [List.cons_append, mget_cons, mget_cons, ih]; split <;> simp
theorem mget_filter {α β : Type} [DecidableEq α] (l : List (α × β)) (q : α → Bool) (k : α) : mget (l.filter fun p => q p.1) k = if q k then mget l k else none := by
  induction l with
  | nil => simp [mget_nil]
  | cons p l ih =>
    rw [List.filter_cons]
    by_cases hq : q p.1
    · rw [if_pos hq, mget_cons, mget_cons, ih]
      by_cases e : p.1 = k
      · subst e; simp [hq]
      · simp [e]
    · rw [if_neg hq, ih, mget_cons]
      by_cases e : p.1 = k
      · subst e; simp [hq]
      · simp [e]
theorem mget_map_put {α β : Type} [DecidableEq α] (l : List (α × β)) (k : α) (v : β) (j : α) (h : (mget l k).isSome) : mget (l.map fun p => if p.1 = k then (k, v) else p) j = if k = j then some v else mget l j := by
  induction l with
  | nil => simp [mget_nil] at h
  | cons p l ih =>
    rw [List.map_cons, mget_cons]
    rw [mget_cons] at h
    by_cases e : p.1 = k
    · simp only [e, if_true]
      by_cases e2 : k = j
      · simp [e2]
      · rw [if_neg e2, if_neg e2, mget_cons, e, if_neg e2]
        by_cases hs : (mget l k).isSome
        · rw [ih hs, if_neg e2]
        · have : ∀ q ∈ l, q.1 ≠ k := by
            intro q hq hk
            apply hs
            simp only [mget, Option.isSome_map, List.find?_isSome, decide_eq_true_eq]
            exact ⟨q, hq, hk⟩
          congr 1
          conv => rhs; rw [← List.map_id l]
          apply List.map_congr_left
          intro q hq
          simp [this q hq]
    · rw [if_neg e] at h
      simp only [e, if_false]
      rw [ih h, mget_cons]
      by_cases e2 : k = j
      · subst e2; simp [e]
      · simp [e2]
theorem mget_mput {α β : Type} [DecidableEq α] (l : List (α × β)) (k : α) (v : β) (j : α) : mget (mput l k v) j = if k = j then some v else mget l j := by
  unfold mput
  split
  · rename_i h; exact mget_map_put l k v j h
  · rename_i h
    rw [mget_append]
    by_cases e : k = j
    · subst e
      have : mget l k = none := by simpa using h
      rw [this, mget_cons]; simp
    · rw [mget_cons, if_neg e, mget_nil, if_neg e]; simp

theorem filt_len (k : ByteArray) : ∀ M : Prs, (M.filter (ltB k)).length + (M.filter (gtB k)).length ≤ M.length
  | [] => Nat.le_refl _
  | p :: M => by
    have ih := filt_len k M
    simp only [List.filter_cons]
    by_cases h1 : ltB k p = true
    · have h2 : gtB k p = false := slt_asymm h1
      rw [if_pos h1, h2]
      simp only [List.length_cons, Bool.false_eq_true, if_false]
      omega
    · rw [if_neg h1]
      split <;> simp only [List.length_cons] <;> omega
theorem ins_len {M : Prs} (h : Asc M) (k v : ByteArray) : (insL M k v).length ≤ M.length + 1 ∧ ((∃ u, (k, u) ∈ M) → (insL M k v).length = M.length) := by
  constructor
  · have := filt_len k M
    simp only [insL, List.length_append, List.length_cons]
    omega
  · rintro ⟨u, hu⟩
    obtain ⟨L, R, rfl⟩ := List.append_of_mem hu
    obtain ⟨f1, f2⟩ := filt_eq h
    simp only [insL, f1, f2, List.length_append, List.length_cons]
theorem rm_len (M : Prs) (k : ByteArray) : (rmL M k).length ≤ M.length := by
  have := filt_len k M
  simp only [rmL, List.length_append]
  omega
theorem ins_mem {M : Prs} {k v : ByteArray} {p : ByteArray × ByteArray} (h : p ∈ insL M k v) : p = (k, v) ∨ p ∈ M := by
  simp only [insL, List.mem_append, List.mem_cons, List.mem_filter] at h
  rcases h with h | h | h
  · exact .inr h.1
  · exact .inl h
  · exact .inr h.1
theorem rm_mem {M : Prs} {k : ByteArray} {p : ByteArray × ByteArray} (h : p ∈ rmL M k) : p ∈ M ∧ p.1 ≠ k := by
  simp only [rmL, List.mem_append, List.mem_filter] at h
  rcases h with h | h
  · refine ⟨h.1, ?_⟩
    rintro rfl
    have := h.2
    unfold ltB at this
    rw [slt_irrefl] at this
    cases this
  · refine ⟨h.1, ?_⟩
    rintro rfl
    have := h.2
    unfold gtB at this
    rw [slt_irrefl] at this
    cases this

theorem filt_part (k : ByteArray) : ∀ M : Prs, (∀ p ∈ M, p.1 ≠ k) → (M.filter (ltB k)).length + (M.filter (gtB k)).length = M.length
  | [], _ => rfl
  | p :: M, h => by
    have ih := filt_part k M (fun q hq => h q (by simp [hq]))
    simp only [List.filter_cons]
    by_cases h1 : ltB k p = true
    · have h2 : gtB k p = false := slt_asymm h1
      rw [if_pos h1, h2]
      simp only [List.length_cons, Bool.false_eq_true, if_false]
      omega
    · rw [if_neg h1]
      by_cases h2 : gtB k p = true
      · rw [if_pos h2]; simp only [List.length_cons]; omega
      · exact absurd (slt_total (show slt p.1 k = false by simpa [ltB] using h1) (show slt k p.1 = false by simpa [gtB] using h2)) (h p (by simp))
theorem put_look {S : Sh} (h : Asc S.kv) (k v : ByteArray) : (putSh k v S (S.look k)).look k = some v := by
  have ha := asc_put h k v (S.look k)
  unfold putSh at ha ⊢
  split
  · rename_i he; exact he
  · rename_i he
    rw [if_neg he] at ha
    rw [look_kv k ha, kv_put k v _ h]
    simp [insL]
theorem del_look {S : Sh} (h : Asc S.kv) (k : ByteArray) : (delSh k S (S.look k)).look k = none := by
  have ha := asc_del h k (S.look k)
  unfold delSh at ha ⊢
  split
  · rename_i he; exact he
  · rename_i he
    rw [if_neg he] at ha
    cases hc : (S.del k).look k with
    | none => rfl
    | some u =>
      have := (look_kv k ha u).1 hc
      rw [kv_del k h] at this
      exact absurd rfl (rm_mem this).2
theorem ins_keep {M : Prs} {k v : ByteArray} {p : ByteArray × ByteArray} (hp : p.1 ≠ k) : p ∈ insL M k v ↔ p ∈ M := by
  constructor
  · intro h
    rcases ins_mem h with rfl | h
    · exact absurd rfl hp
    · exact h
  · intro h
    simp only [insL, List.mem_append, List.mem_cons, List.mem_filter]
    by_cases h1 : slt p.1 k = true
    · exact .inl ⟨h, h1⟩
    · by_cases h2 : slt k p.1 = true
      · exact .inr (.inr ⟨h, h2⟩)
      · exact absurd (slt_or h1 h2) hp
theorem rm_keep {M : Prs} {k : ByteArray} {p : ByteArray × ByteArray} (hp : p.1 ≠ k) : p ∈ rmL M k ↔ p ∈ M := by
  constructor
  · exact fun h => (rm_mem h).1
  · intro h
    simp only [rmL, List.mem_append, List.mem_filter]
    by_cases h1 : slt p.1 k = true
    · exact .inl ⟨h, h1⟩
    · by_cases h2 : slt k p.1 = true
      · exact .inr ⟨h, h2⟩
      · exact absurd (slt_or h1 h2) hp
theorem look_same {S U : Sh} (hS : Asc S.kv) (hU : Asc U.kv) {k : ByteArray} (h : ∀ v, (k, v) ∈ S.kv ↔ (k, v) ∈ U.kv) : S.look k = U.look k := by
  cases hs : S.look k with
  | some v => exact ((look_kv k hU v).2 ((h v).1 ((look_kv k hS v).1 hs))).symm
  | none =>
    cases hu : U.look k with
    | none => rfl
    | some v =>
      have := (look_kv k hS v).2 ((h v).2 ((look_kv k hU v).1 hu))
      rw [hs] at this
      cases this
theorem put_other {S : Sh} (h : Asc S.kv) {k k' v : ByteArray} (hk : k' ≠ k) : (putSh k v S (S.look k)).look k' = S.look k' := by
  refine look_same (asc_put h k v _) h (fun u => ?_)
  rw [show (putSh k v S (S.look k)).kv = insL S.kv k v from step_kv h ⟨1, k, v⟩]
  exact ins_keep hk
theorem del_other {S : Sh} (h : Asc S.kv) {k k' : ByteArray} (hk : k' ≠ k) : (delSh k S (S.look k)).look k' = S.look k' := by
  refine look_same (asc_del h k _) h (fun u => ?_)
  rw [show (delSh k S (S.look k)).kv = rmL S.kv k from step_kv h ⟨0, k, ByteArray.empty⟩]
  exact rm_keep hk
theorem real_same (k : ByteArray) (l : Option ByteArray) : (chgOf k l l).real = false := by
  cases l <;> simp [chgOf, Chg.real]

/-- Pairs of the same looks are the same. -/
theorem asc_ext : ∀ {A B : Prs}, Asc A → Asc B → (∀ p, p ∈ A ↔ p ∈ B) → A = B
  | [], [], _, _, _ => rfl
  | [], q :: B, _, _, h => by have := (h q).2 (by simp); simp at this
  | p :: A, [], _, _, h => by have := (h p).1 (by simp); simp at this
  | p :: A, q :: B, hA, hB, h => by
    obtain ⟨a1, a2⟩ := asc_cons hA
    obtain ⟨b1, b2⟩ := asc_cons hB
    have hpq : p = q := by
      rcases List.mem_cons.1 ((h p).1 (by simp)) with e | e
      · exact e
      · rcases List.mem_cons.1 ((h q).2 (by simp)) with e' | e'
        · exact e'.symm
        · have h1 := b1 p e
          have h2 := a1 q e'
          have := slt_trans h1 h2
          rw [slt_irrefl] at this
          cases this
    subst hpq
    congr 1
    refine asc_ext a2 b2 (fun x => ?_)
    have hx := h x
    simp only [List.mem_cons] at hx
    constructor
    · intro hm
      rcases hx.1 (.inr hm) with e | e
      · subst e; have := a1 _ hm; rw [slt_irrefl] at this; cases this
      · exact e
    · intro hm
      rcases hx.2 (.inr hm) with e | e
      · subst e; have := b1 _ hm; rw [slt_irrefl] at this; cases this
      · exact e
theorem kv_ext {S U : Sh} (hS : Asc S.kv) (hU : Asc U.kv) (h : ∀ k, S.look k = U.look k) : S.kv = U.kv :=
  asc_ext hS hU (fun p => by rw [← look_kv p.1 hS p.2, ← look_kv p.1 hU p.2, h])
/-- One map has one shape. -/
theorem shape_uniq : ∀ {S U : Sh}, S.Heap → U.Heap → S.kv = U.kv → S = U
  | .nil, .nil, _, _, _ => rfl
  | .nil, .node k v wt l r, _, _, h => by have := congrArg List.length h; simp [Sh.kv] at this
  | .node k v wt l r, .nil, _, _, h => by have := congrArg List.length h; simp [Sh.kv] at this
  | .node k v wt l r, .node k' v' wt' l' r', hS, hU, h => by
    have t1 := top_root hS
    have t2 := top_root hU
    have h' : l.kv ++ (k, v) :: r.kv = l'.kv ++ (k', v') :: r'.kv := h
    rw [← h'] at t2
    have hl := top_uniq t1 t2 (by simp) (by have := congrArg List.length h'; simp at this ⊢; omega)
    obtain ⟨e1, e2⟩ := List.append_inj h' hl
    simp only [List.cons.injEq, Prod.mk.injEq] at e2
    obtain ⟨⟨rfl, rfl⟩, e3⟩ := e2
    obtain ⟨w1, _, _, p1, p2⟩ := hS
    obtain ⟨w2, _, _, q1, q2⟩ := hU
    rw [shape_uniq p1 q1 e1, shape_uniq p2 q2 e3, w1, w2]
/-- Each key that has another value is told. -/
theorem diff_complete {S U : Sh} (hS : Asc S.kv) (hU : Asc U.kv) {k : ByteArray} (h : S.look k ≠ U.look k) : chgOf k (S.look k) (U.look k) ∈ diffL S.kv U.kv := by
  have hr : (chgOf k (S.look k) (U.look k)).real = true := by
    cases hs : S.look k with
    | none =>
      cases hu : U.look k with
      | none => rw [hs, hu] at h; exact absurd rfl h
      | some v => simp [chgOf, Chg.real]
    | some v =>
      cases hu : U.look k with
      | none => simp [chgOf, Chg.real]
      | some u =>
        rw [hs, hu] at h
        have hvu : v ≠ u := fun e => h (by rw [e])
        simp [chgOf, Chg.real, hvu]
  rw [diff_three k hS hU, if_pos hr]
  simp
theorem diff_nothing {S U : Sh} (hS : Asc S.kv) (hU : Asc U.kv) (h : ∀ k, S.look k = U.look k) : diffL S.kv U.kv = [] := by
  refine List.eq_nil_iff_forall_not_mem.2 (fun x hx => ?_)
  obtain ⟨h1, h2⟩ := diff_look hS hU hx
  rw [h] at h1
  rw [h1, real_same] at h2
  cases h2
/-- The map holds what the tree does. -/
structure MapRel (m : List (ByteArray × Value)) (S : Sh) : Prop where
  get : ∀ k, mget m k = (S.look k).map Value.string
  len : m.length = S.cnt
theorem MapRel.nil : MapRel [] .nil := ⟨fun _ => rfl, rfl⟩
theorem put_cnt {S : Sh} (h : Asc S.kv) (k v : ByteArray) : (putSh k v S (S.look k)).cnt = if (S.look k).isSome then S.cnt else S.cnt + 1 := by
  have hkv : (putSh k v S (S.look k)).kv = insL S.kv k v := step_kv h ⟨1, k, v⟩
  rw [cnt_kv, hkv]
  cases hl : S.look k with
  | some u => rw [(ins_len h k v).2 ⟨u, (look_kv k h u).1 hl⟩, cnt_kv]; rfl
  | none =>
    have := filt_part k S.kv (fun p hp e => by
      have := (look_kv k h p.2).2 (by rw [← e]; exact hp)
      rw [hl] at this
      cases this)
    simp only [insL, List.length_append, List.length_cons, cnt_kv, Option.isSome_none, Bool.false_eq_true, if_false]
    omega
theorem MapRel.put {m : List (ByteArray × Value)} {S : Sh} (h : MapRel m S) (ha : Asc S.kv) (k v : ByteArray) : MapRel (mput m k (.string v)) (putSh k v S (S.look k)) := by
  refine ⟨fun j => ?_, ?_⟩
  · rw [mget_mput]
    by_cases e : k = j
    · subst e; rw [if_pos rfl, put_look ha]; rfl
    · rw [if_neg e, put_other ha (Ne.symm e), h.get]
  · rw [put_cnt ha]
    unfold mput
    rw [h.get]
    cases S.look k with
    | none => simp [h.len]
    | some u => simp [h.len]
/-- A tree, as the law keeps it. -/
structure TOk (w : World) (c : Nat) (T : Tr) : Prop where
  at_ : TreeAt w T
  asc : Asc T.sh.kv
  heap : T.sh.Heap
  cnt : T.cnt ≤ c
  keys : ∀ k, (T.sh.look k).isSome → k.size ≤ 100
theorem TOk.nil (w : World) (c : Nat) : TOk w c .nil := ⟨trivial, List.Pairwise.nil, trivial, Nat.zero_le _, fun k h => by cases h⟩
theorem TOk.below {w w' : World} {c : Nat} {T : Tr} (h : TOk w c T) (hb : Below w.heap.size w w') : TOk w' c T := ⟨h.at_.below hb, h.asc, h.heap, h.cnt, h.keys⟩
theorem TOk.mono {w : World} {c c' : Nat} {T : Tr} (h : TOk w c T) (hc : c ≤ c') : TOk w c' T := ⟨h.at_, h.asc, h.heap, Nat.le_trans h.cnt hc, h.keys⟩
/-- What a put leaves, a del. -/
structure PutPost (w : World) (c : Nat) (T : Tr) (k : ByteArray) (o : Option ByteArray) (w' : World) (X : Tr) : Prop where
  ok : TOk w' (c + 1) X
  bel : Below w.heap.size w w'
  own : X.sh.look k = o
  oth : ∀ j, j ≠ k → X.sh.look j = T.sh.look j
  shp : ∀ v, o = some v → X.sh = putSh k v T.sh (T.sh.look k)
theorem put_one (k v : ByteArray) (hk : k.size ≤ 100) (T : Tr) (c : Nat) (w : World) (h : TOk w c T) (hc : c ≤ 1000000) :
    Calls Try.prog 50 #[.pointer T.ptr, .string k, .string v] w fun e w' => ∃ X, e = .returned (.pointer X.ptr) ∧ PutPost w c T k (some v) w' X := by
  refine (putT_any k v (by unfold maxLen; omega) T w.heap.size w (Nat.le_refl _) h.at_.lo h.at_ (by have := h.cnt; omega)).mono ?_
  rintro e w' ⟨X, rfl, hx⟩
  have hs : X.sh = putSh k v T.sh (T.sh.look k) := by rw [hx.shp, sh_look]
  refine ⟨X, rfl, ⟨hx.at_, ?_, ?_, by have h1 := hx.num; have h2 := h.cnt; omega, fun j hj => ?_⟩, hx.bel, ?_, fun j hj => ?_, fun u hu => ?_⟩
  · rw [hs]; exact asc_put h.asc _ _ _
  · rw [hs]; exact heap_step h.heap h.asc ⟨1, k, v⟩
  · by_cases e : j = k
    · rw [e]; exact hk
    · rw [hs, put_other h.asc e] at hj; exact h.keys j hj
  · rw [hs]; exact put_look h.asc k v
  · rw [hs]; exact put_other h.asc hj
  · cases hu; exact hs
theorem del_one (k : ByteArray) (T : Tr) (c : Nat) (w : World) (h : TOk w c T) (hc : c ≤ 1000000) :
    Calls Try.prog 51 #[.pointer T.ptr, .string k] w fun e w' => ∃ X, e = .returned (.pointer X.ptr) ∧ PutPost w c T k none w' X := by
  refine (delT_any k T w.heap.size w (Nat.le_refl _) h.at_.lo h.at_ (by have := h.cnt; omega)).mono ?_
  rintro e w' ⟨X, rfl, hx⟩
  have hs : X.sh = delSh k T.sh (T.sh.look k) := by rw [hx.shp, sh_look]
  refine ⟨X, rfl, ⟨hx.at_, ?_, ?_, by have h1 := hx.num; have h2 := h.cnt; omega, fun j hj => ?_⟩, hx.bel, ?_, fun j hj => ?_, fun u hu => by cases hu⟩
  · rw [hs]; exact asc_del h.asc _ _
  · rw [hs]; exact heap_step h.heap h.asc ⟨0, k, ByteArray.empty⟩
  · by_cases e : j = k
    · rw [e, hs, del_look h.asc] at hj; cases hj
    · rw [hs, del_other h.asc e] at hj; exact h.keys j hj
  · rw [hs]; exact del_look h.asc k
  · rw [hs]; exact del_other h.asc hj
/-- Loop 1: the first i pairs are put. -/
structure First (L : Prs) (i : Nat) (S : Sh) : Prop where
  cov : ∀ j, j < i → (S.look (L.getD j pdflt).1).isSome
  src : ∀ k, (S.look k).isSome → ∃ j, j < i ∧ (L.getD j pdflt).1 = k
theorem First.zero (L : Prs) : First L 0 .nil := ⟨fun j hj => by omega, fun k h => by cases h⟩
theorem First.step {L : Prs} {i c : Nat} {T X : Tr} {w w' : World} {v : ByteArray} (h : First L i T.sh) (hp : PutPost w c T (L.getD i pdflt).1 (some v) w' X) : First L (i + 1) X.sh := by
  refine ⟨fun j hj => ?_, fun k hk => ?_⟩
  · by_cases e : (L.getD j pdflt).1 = (L.getD i pdflt).1
    · rw [e, hp.own]; rfl
    · rw [hp.oth _ e]
      exact h.cov j (by
        rcases Nat.lt_or_ge j i with h | h
        · exact h
        · exact absurd (by rw [show j = i by omega]) e)
  · by_cases e : k = (L.getD i pdflt).1
    · exact ⟨i, by omega, e.symm⟩
    · rw [hp.oth _ e] at hk
      obtain ⟨j, hj, e⟩ := h.src k hk
      exact ⟨j, by omega, e⟩
/-- Loops 2 to 4: what u has is t's, or between's. -/
def Mixed (S : Sh) (B : List ByteArray) (U : Sh) : Prop := ∀ k, U.look k = none ∨ U.look k = S.look k ∨ k ∈ B
theorem Mixed.nil (S : Sh) (B : List ByteArray) : Mixed S B .nil := fun _ => .inl rfl
theorem Mixed.put {S : Sh} {B : List ByteArray} {T X : Tr} {w w' : World} {c : Nat} {k v : ByteArray} (h : Mixed S B T.sh) (hp : PutPost w c T k (some v) w' X) (hk : k ∈ B ∨ S.look k = some v) : Mixed S B X.sh := fun j => by
  by_cases e : j = k
  · subst e
    rcases hk with hk | hk
    · exact .inr (.inr hk)
    · exact .inr (.inl (by rw [hp.own, hk]))
  · rw [hp.oth _ e]; exact h j
/-- Loop 4: from i on all pairs are put. -/
def Behind (L : Prs) (S : Sh) (i : Nat) (U : Sh) : Prop := ∀ j, i ≤ j → j < L.length → U.look (L.getD j pdflt).1 = S.look (L.getD j pdflt).1
theorem Behind.put {L : Prs} {S : Sh} {i c : Nat} {T X : Tr} {w w' : World} {v : ByteArray} (h : Behind L S (i + 1) T.sh) (hp : PutPost w c T (L.getD i pdflt).1 (some v) w' X) (hv : S.look (L.getD i pdflt).1 = some v) : Behind L S i X.sh := fun j h1 h2 => by
  by_cases e : (L.getD j pdflt).1 = (L.getD i pdflt).1
  · rw [e, hp.own, hv]
  · rw [hp.oth _ e]
    exact h j (by
      rcases Nat.lt_or_ge i j with h | h
      · exact h
      · exact absurd (by rw [show j = i by omega]) e) h2
/-- u has t's, and between's from q on. -/
structure Rest (S : Sh) (B : List ByteArray) (q : Nat) (U : Sh) : Prop where
  has : ∀ k, (S.look k).isSome → U.look k = S.look k
  no : ∀ k, S.look k = none → U.look k = none ∨ ∃ j, q ≤ j ∧ j < B.length ∧ B.getD j ByteArray.empty = k
theorem Rest.start {L : Prs} {S U : Sh} {B : List ByteArray} (h1 : First L L.length S) (h2 : Behind L S 0 U) (h3 : Mixed S B U) : Rest S B 0 U := by
  refine ⟨fun k hk => ?_, fun k hk => ?_⟩
  · obtain ⟨j, hj, rfl⟩ := h1.src k hk
    exact h2 j (Nat.zero_le _) hj
  · rcases h3 k with h | h | h
    · exact .inl h
    · exact .inl (by rw [h, hk])
    · obtain ⟨j, hj, e⟩ := List.getElem_of_mem h
      exact .inr ⟨j, Nat.zero_le _, hj, by rw [List.getD, List.getElem?_eq_getElem hj]; exact e⟩
theorem Rest.skip {S U : Sh} {B : List ByteArray} {q : Nat} (h : Rest S B q U) (hs : (S.look (B.getD q ByteArray.empty)).isSome) : Rest S B (q + 1) U := by
  refine ⟨h.has, fun k hk => ?_⟩
  rcases h.no k hk with h1 | ⟨j, h1, h2, h3⟩
  · exact .inl h1
  · by_cases e : j = q
    · subst e; rw [h3, hk] at hs; cases hs
    · exact .inr ⟨j, by omega, h2, h3⟩
theorem Rest.del {S : Sh} {B : List ByteArray} {q c : Nat} {T X : Tr} {w w' : World} (h : Rest S B q T.sh) (hs : S.look (B.getD q ByteArray.empty) = none) (hp : PutPost w c T (B.getD q ByteArray.empty) none w' X) : Rest S B (q + 1) X.sh := by
  refine ⟨fun k hk => ?_, fun k hk => ?_⟩
  · have e : k ≠ B.getD q ByteArray.empty := by rintro rfl; rw [hs] at hk; cases hk
    rw [hp.oth _ e]; exact h.has k hk
  · by_cases e : k = B.getD q ByteArray.empty
    · exact .inl (by rw [e]; exact hp.own)
    · rw [hp.oth _ e]
      rcases h.no k hk with h1 | ⟨j, h1, h2, h3⟩
      · exact .inl h1
      · by_cases e2 : j = q
        · subst e2; exact absurd h3.symm e
        · exact .inr ⟨j, by omega, h2, h3⟩
theorem Rest.end_ {S U : Sh} {B : List ByteArray} {q : Nat} (h : Rest S B q U) (hq : B.length ≤ q) : ∀ k, S.look k = U.look k := fun k => by
  cases hs : S.look k with
  | some v => rw [h.has k (by rw [hs]; rfl), hs]
  | none =>
    rcases h.no k hs with h1 | ⟨j, h1, h2, _⟩
    · exact h1.symm
    · omega
/-- What Diff tells of t and u. -/
def Told (S U : Sh) (c : Chg) : Prop := c = chgOf c.key (S.look c.key) (U.look c.key) ∧ S.look c.key ≠ U.look c.key ∧ c.key.size ≤ 100
theorem told_all {wS wU : World} {cS cU : Nat} {T X : Tr} (hT : TOk wS cS T) (hX : TOk wU cU X) : ∀ c ∈ diffL T.sh.kv X.sh.kv, Told T.sh X.sh c := fun c hc => by
  obtain ⟨h1, h2⟩ := diff_look hT.asc hX.asc hc
  have hne : T.sh.look c.key ≠ X.sh.look c.key := fun e => by
    rw [e] at h1
    rw [h1, real_same] at h2
    cases h2
  refine ⟨h1, hne, ?_⟩
  cases hs : T.sh.look c.key with
  | some v => exact hT.keys _ (by rw [hs]; rfl)
  | none =>
    cases hu : X.sh.look c.key with
    | some v => exact hX.keys _ (by rw [hu]; rfl)
    | none => rw [hs, hu] at hne; exact absurd rfl hne
theorem told_not {S U : Sh} {B : List ByteArray} {q : Nat} {c : Chg} (h : Told S U c) (hr : Rest S B q U) : S.look c.key = none := by
  cases hs : S.look c.key with
  | none => rfl
  | some v => exact absurd (hr.has _ (by rw [hs]; rfl)).symm h.2.1
/-- What is led from t towards u has, behind some changes. -/
def Led (S U : Sh) (ks : List ByteArray) (V : Sh) : Prop := ∀ k, (k ∈ ks → V.look k = U.look k) ∧ (k ∉ ks → V.look k = S.look k)
theorem Led.nil (S U : Sh) : Led S U [] S := fun k => ⟨fun h => by simp at h, fun _ => rfl⟩
theorem Led.step {S U : Sh} {ks : List ByteArray} {T X : Tr} {w w' : World} {c : Nat} {k : ByteArray} {o : Option ByteArray} (h : Led S U ks T.sh) (hp : PutPost w c T k o w' X) (ho : U.look k = o) : Led S U (ks ++ [k]) X.sh := fun j => by
  by_cases e : j = k
  · subst e; exact ⟨fun _ => by rw [hp.own, ho], fun hn => absurd (by simp) hn⟩
  · rw [hp.oth _ e]
    exact ⟨fun hm => (h j).1 (by simpa [e] using hm), fun hm => (h j).2 (fun h' => hm (by simp [h']))⟩
theorem Led.end_ {S U V : Sh} {ks : List ByteArray} (hS : Asc S.kv) (hU : Asc U.kv) (hk : ks = (diffL S.kv U.kv).map (·.key)) (h : Led S U ks V) : ∀ k, V.look k = U.look k := fun k => by
  by_cases e : S.look k = U.look k
  · by_cases hm : k ∈ ks
    · exact (h k).1 hm
    · rw [(h k).2 hm, e]
  · exact (h k).1 (by rw [hk]; exact List.mem_map.2 ⟨_, diff_complete hS hU e, rfl⟩)
end Go.Proofs.Ytkngadbeflepoaa.One
/- Machines, plain: what a machine's bytes are read as; bytes that are read as a machine are its bytes. No condition. -/
namespace Go.Proofs.Ytkngadbeflepoaa
open Go.RowKit

theorem str_mk (s : ByteArray) : (⟨s.data.toList.toArray⟩ : ByteArray) = s := by
  cases s; rfl
theorem str_size (s : ByteArray) : s.data.toList.length = s.size := rfl
theorem str_back {s : ByteArray} {most : Nat} (hs : s.size ≤ most) (hm : most < 1000000) (r : List UInt8) : (RdV.mk 0 (strL s ++ r)).str most = (s.data.toList, ⟨0, r⟩) := by
  have h := str_app' (t := s.data.toList) (most := most) (by rw [str_size]; exact hs) hm r
  rw [str_size] at h
  exact h
/-! A client's last command. -/
theorem last_app {x : LastV} (hx : LastFit x) (r : List UInt8) : (RdV.mk 0 (lastB x ++ r)).last = (x, ⟨0, r⟩) := by
  have hseq := x.seq.isLt
  have hp : (RdV.mk 0 (lastB x ++ r)).lastP = (x, ⟨0, r⟩) := by
    unfold RdV.lastP lastB
    by_cases h0 : x.seq.toNat = 0
    · rw [if_pos h0, List.append_nil, below_app (by omega) (by omega), h0, if_pos rfl, hx.zero h0]
    · rw [if_neg h0, List.append_assoc, below_app (by omega) (by omega), if_neg h0]
      have hc : (UInt8.ofNat x.code).toNat = x.code := by have := hx.code; simp; omega
      simp only [List.cons_append, byte_app]
      rw [str_back hx.text (by omega)]
      simp only [hc, str_mk]
      have hs : BitVec.ofNat 32 x.seq.toNat = x.seq := by simp
      rw [hs]
  unfold RdV.last
  rw [hp]
  simp only
  rw [if_neg (by have := hx.code; omega)]
theorem last_inv {R R2 : RdV} {x : LastV} (h : R.last = (x, R2)) (he : R2.e = 0) : R.e = 0 ∧ R.s = lastB x ++ R2.s ∧ LastFit x := by
  obtain ⟨⟨y, R3⟩, hp⟩ : ∃ q, R.lastP = q := ⟨_, rfl⟩
  unfold RdV.last at h
  rw [hp] at h
  simp only [Prod.mk.injEq] at h
  obtain ⟨rfl, h2⟩ := h
  split at h2
  · rw [← h2] at he
    exact absurd he (fail_e (by omega))
  · rename_i hc
    subst h2
    obtain ⟨⟨n, R4⟩, hn⟩ : ∃ q, R.below 4294967296 = q := ⟨_, rfl⟩
    unfold RdV.lastP at hp
    rw [hn] at hp
    simp only at hp
    by_cases h0 : n = 0
    · rw [if_pos h0] at hp
      cases hp
      obtain ⟨g1, g2, g3⟩ := below_inv hn he
      refine ⟨g1, ?_, lastFit_none⟩
      rw [g3, h0]
      simp [lastB, lastNone]
    · rw [if_neg h0] at hp
      obtain ⟨⟨c, R5⟩, hb⟩ : ∃ q, R4.byte = q := ⟨_, rfl⟩
      obtain ⟨⟨t, R6⟩, ht⟩ : ∃ q, R5.str 64 = q := ⟨_, rfl⟩
      rw [hb] at hp
      simp only [ht] at hp
      cases hp
      obtain ⟨k1, k2, k3⟩ := str_inv ht he
      obtain ⟨j1, j2⟩ := byte_inv hb k1
      obtain ⟨g1, g2, g3⟩ := below_inv hn j1
      have hs : (BitVec.ofNat 32 n).toNat = n := by simp; omega
      refine ⟨g1, ?_, ⟨by simpa using hc, by show (⟨t.toArray⟩ : ByteArray).size ≤ 64; rw [show (⟨t.toArray⟩ : ByteArray).size = t.length from by simp [ByteArray.size]]; exact k2, fun e => absurd (by rw [hs] at e; exact e) h0⟩⟩
      unfold lastB strL
      simp only [hs]
      rw [if_neg h0, g3, j2, k3]
      simp [ByteArray.size]
/-! A table. -/
def tput (t : TabV) : Nat → TabV
  | 0 => tabNone
  | n + 1 => (tput t n).put n (t.at_ n)
theorem tput_all (t : TabV) : tput t 4 = t := by cases t; rfl
theorem tabP_app {t : TabV} (ht : ∀ n, LastFit (t.at_ n)) : ∀ (n : Nat) (r : List UInt8), (RdV.mk 0 (tabB t n ++ r)).tabP n = (tput t n, ⟨0, r⟩)
  | 0, _ => rfl
  | n + 1, r => by
    have h := tabP_app ht n (lastB (t.at_ n) ++ r)
    unfold RdV.tabP tabB tput
    rw [List.append_assoc, h, last_app (ht n)]
theorem tab_app {t : TabV} (ht : ∀ n, LastFit (t.at_ n)) (r : List UInt8) : (RdV.mk 0 (tabB t 4 ++ r)).tab = (t, ⟨0, r⟩) := by
  unfold RdV.tab
  rw [tabP_app ht, tput_all]
  simp
theorem put_at_lt {t : TabV} {n i : Nat} (x : LastV) (hi : i < n) (hn : n < 4) : (t.put n x).at_ i = t.at_ i := by
  rw [TabV.put_at hn (by omega), if_neg (by omega)]
theorem tabB_put {t : TabV} {n : Nat} (x : LastV) (hn : n < 4) : ∀ i, i ≤ n → tabB (t.put n x) i = tabB t i
  | 0, _ => rfl
  | i + 1, hi => by
    show tabB (t.put n x) i ++ lastB ((t.put n x).at_ i) = tabB t i ++ lastB (t.at_ i)
    rw [tabB_put x hn i (by omega), put_at_lt x (by omega) hn]
theorem tabP_inv {R : RdV} : ∀ (n : Nat) {t : TabV} {R2 : RdV}, n ≤ 4 → R.tabP n = (t, R2) → R2.e = 0 → R.e = 0 ∧ R.s = tabB t n ++ R2.s ∧ ∀ i, i < n → LastFit (t.at_ i)
  | 0, t, R2, _, h, he => by
    cases h
    exact ⟨he, by simp [tabB], fun i hi => by omega⟩
  | n + 1, t, R2, hn, h, he => by
    obtain ⟨⟨t1, R3⟩, h1⟩ : ∃ q, R.tabP n = q := ⟨_, rfl⟩
    obtain ⟨⟨x, R4⟩, h2⟩ : ∃ q, R3.last = q := ⟨_, rfl⟩
    unfold RdV.tabP at h
    rw [h1] at h
    simp only [h2] at h
    cases h
    obtain ⟨a1, a2, a3⟩ := last_inv h2 he
    obtain ⟨b1, b2, b3⟩ := tabP_inv n (by omega) h1 a1
    have e : (t1.put n x).at_ n = x := by rw [TabV.put_at (by omega) (by omega), if_pos rfl]
    refine ⟨b1, ?_, fun i hi => ?_⟩
    · show R.s = tabB (t1.put n x) n ++ lastB ((t1.put n x).at_ n) ++ _
      rw [tabB_put x (by omega) n (Nat.le_refl _), e, b2, a2, List.append_assoc]
    · by_cases hi' : i = n
      · subst hi'; rw [e]; exact a3
      · rw [put_at_lt x (by omega) (by omega)]
        exact b3 i (by omega)
theorem at_most (t : TabV) (n : Nat) : ∃ i, i < 4 ∧ t.at_ n = t.at_ i := by
  by_cases h : n < 4
  · exact ⟨n, h, rfl⟩
  · refine ⟨3, by omega, ?_⟩
    unfold TabV.at_
    rw [if_neg (by omega), if_neg (by omega), if_neg (by omega)]
    rfl
theorem tab_inv {R R2 : RdV} {t : TabV} (h : R.tab = (t, R2)) (he : R2.e = 0) : R.e = 0 ∧ R.s = tabB t 4 ++ R2.s ∧ ∀ n, LastFit (t.at_ n) := by
  obtain ⟨⟨t1, R3⟩, h1⟩ : ∃ q, R.tabP 4 = q := ⟨_, rfl⟩
  unfold RdV.tab at h
  rw [h1] at h
  simp only [Prod.mk.injEq] at h
  obtain ⟨h2, rfl⟩ := h
  rw [if_pos he] at h2
  subst h2
  obtain ⟨a1, a2, a3⟩ := tabP_inv 4 (Nat.le_refl _) h1 he
  exact ⟨a1, a2, fun n => by obtain ⟨i, hi, e⟩ := at_most t1 n; rw [e]; exact a3 i hi⟩
end Go.Proofs.Ytkngadbeflepoaa
