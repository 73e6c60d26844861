/- One map has one shape, plain: what the law TreeOne keeps from loop to loop. No condition but the keys' order and the heap's. -/
import Derived.Test.YtkngadbeflepoaaZDeltaLeads21
import Derived.Test.YtkngadbeflepoaaZDeltaLeads18
import Derived.Test.YtkngadbeflepoaaZDeltaLeads4
import Derived.Test.YtkngadbeflepoaaZDeltaLeads27
import Derived.Test.YtkngadbeflepoaaZDeltaLeads28
import Derived.Test.YtkngadbeflepoaaZDeltaLeads29
import Derived.Test.YtkngadbeflepoaaZDeltaLeads23
import Derived.Test.YtkngadbeflepoaaZDeltaLeads16
import Derived.Deep.DeepCutAuto
import Derived.Test.YtkngadbeflepoaaZDeltaLeads26
import Derived.Test.YtkngadbeflepoaaZDeltaLeads6
namespace Go.Proofs.Ytkngadbeflepoaa.One
open Go.RowKit
theorem mget_nil {α β : Type} [DecidableEq α] (k : α) : mget ([] : List (α × β)) k = none := rfl
theorem mget_cons {α β : Type} [DecidableEq α] (p : α × β) (l : List (α × β)) (k : α) : mget (p :: l) k = if p.1 = k then some p.2 else mget l k := by
  simp only [mget, List.find?_cons]
  by_cases h : p.1 = k <;> simp [h]
theorem mget_append {α β : Type} [DecidableEq α] (l m : List (α × β)) (k : α) : mget (l ++ m) k = (mget l k).or (mget m k) := by
  induction l with
  | nil => simp [mget_nil]
  | cons p l ih => rw [List.cons_append, mget_cons, mget_cons, ih]; split <;> simp
theorem mget_map_put {α β : Type} [DecidableEq α] (l : List (α × β)) (k : α) (v : β) (j : α) (h : (mget l k).isSome) : mget (l.map fun p => if p.1 = k then (k, v) else p) j = if k = j then some v else mget l j := by
  induction l with
  | nil => simp [mget_nil] at h
  | cons p l ih =>
    rw [List.map_cons, mget_cons]
    rw [mget_cons] at h
    by_cases e : p.1 = k
    · simp only [e, if_true]
      by_cases e2 : k = j
      · simp [e2]
      · rw [if_neg e2, if_neg e2, mget_cons, e, if_neg e2]
        by_cases hs : (mget l k).isSome
        · rw [ih hs, if_neg e2]
        · have : ∀ q ∈ l, q.1 ≠ k := by
            intro q hq hk
            apply hs
            simp only [mget, Option.isSome_map, List.find?_isSome, decide_eq_true_eq]
            exact ⟨q, hq, hk⟩
          congr 1
          conv => rhs; rw [← List.map_id l]
          apply List.map_congr_left
          intro q hq
          simp [this q hq]
    · rw [if_neg e] at h
      simp only [e, if_false]
      rw [ih h, mget_cons]
      by_cases e2 : k = j
      · subst e2; simp [e]
      · simp [e2]
theorem mget_mput {α β : Type} [DecidableEq α] (l : List (α × β)) (k : α) (v : β) (j : α) : mget (mput l k v) j = if k = j then some v else mget l j := by
  unfold mput
  split
  · rename_i h; exact mget_map_put l k v j h
  · rename_i h
    rw [mget_append]
    by_cases e : k = j
    · subst e
      have : mget l k = none := by simpa using h
      rw [this, mget_cons]; simp
    · rw [mget_cons, if_neg e, mget_nil, if_neg e]; simp
theorem filt_len (k : ByteArray) : ∀ M : Prs, (M.filter (ltB k)).length + (M.filter (gtB k)).length ≤ M.length
  | [] => Nat.le_refl _
  | p :: M => by
    have ih := filt_len k M
    simp only [List.filter_cons]
    by_cases h1 : ltB k p = true
    · have h2 : gtB k p = false := slt_asymm h1
      rw [if_pos h1, h2]
      simp only [List.length_cons, Bool.false_eq_true, if_false]
      omega
    · rw [if_neg h1]
      split <;> simp only [List.length_cons] <;> omega
theorem ins_len {M : Prs} (h : Asc M) (k v : ByteArray) : (insL M k v).length ≤ M.length + 1 ∧ ((∃ u, (k, u) ∈ M) → (insL M k v).length = M.length) := by
  constructor
  · have := filt_len k M
    simp only [insL, List.length_append, List.length_cons]
    omega
  · rintro ⟨u, hu⟩
    obtain ⟨L, R, rfl⟩ := List.append_of_mem hu
    obtain ⟨f1, f2⟩ := filt_eq h
    simp only [insL, f1, f2, List.length_append, List.length_cons]
theorem rm_len (M : Prs) (k : ByteArray) : (rmL M k).length ≤ M.length := by
  have := filt_len k M
  simp only [rmL, List.length_append]
  omega
theorem ins_mem {M : Prs} {k v : ByteArray} {p : ByteArray × ByteArray} (h : p ∈ insL M k v) : p = (k, v) ∨ p ∈ M := by
  simp only [insL, List.mem_append, List.mem_cons, List.mem_filter] at h
  rcases h with h | h | h
  · exact .inr h.1
  · exact .inl h
  · exact .inr h.1
theorem rm_mem {M : Prs} {k : ByteArray} {p : ByteArray × ByteArray} (h : p ∈ rmL M k) : p ∈ M ∧ p.1 ≠ k := by
  simp only [rmL, List.mem_append, List.mem_filter] at h
  rcases h with h | h
  · refine ⟨h.1, ?_⟩
    rintro rfl
    have := h.2
    unfold ltB at this
    rw [slt_irrefl] at this
    cases this
  · refine ⟨h.1, ?_⟩
    rintro rfl
    have := h.2
    unfold gtB at this
    rw [slt_irrefl] at this
    cases this
theorem filt_part (k : ByteArray) : ∀ M : Prs, (∀ p ∈ M, p.1 ≠ k) → (M.filter (ltB k)).length + (M.filter (gtB k)).length = M.length
  | [], _ => rfl
  | p :: M, h => by
    have ih := filt_part k M (fun q hq => h q (by simp [hq]))
    simp only [List.filter_cons]
    by_cases h1 : ltB k p = true
    · have h2 : gtB k p = false := slt_asymm h1
      rw [if_pos h1, h2]
      simp only [List.length_cons, Bool.false_eq_true, if_false]
      omega
    · rw [if_neg h1]
      by_cases h2 : gtB k p = true
      · rw [if_pos h2]; simp only [List.length_cons]; omega
      · exact absurd (slt_total (show slt p.1 k = false by simpa [ltB] using h1) (show slt k p.1 = false by simpa [gtB] using h2)) (h p (by simp))
theorem put_look {S : Sh} (h : Asc S.kv) (k v : ByteArray) : (putSh k v S (S.look k)).look k = some v := by
  have ha := asc_put h k v (S.look k)
  unfold putSh at ha ⊢
  split
  · rename_i he; exact he
  · rename_i he
    rw [if_neg he] at ha
    rw [look_kv k ha, kv_put k v _ h]
    simp [insL]
theorem del_look {S : Sh} (h : Asc S.kv) (k : ByteArray) : (delSh k S (S.look k)).look k = none := by
  have ha := asc_del h k (S.look k)
  unfold delSh at ha ⊢
  split
  · rename_i he; exact he
  · rename_i he
    rw [if_neg he] at ha
    cases hc : (S.del k).look k with
    | none => rfl
    | some u =>
      have := (look_kv k ha u).1 hc
      rw [kv_del k h] at this
      exact absurd rfl (rm_mem this).2
theorem ins_keep {M : Prs} {k v : ByteArray} {p : ByteArray × ByteArray} (hp : p.1 ≠ k) : p ∈ insL M k v ↔ p ∈ M := by
  constructor
  · intro h
    rcases ins_mem h with rfl | h
    · exact absurd rfl hp
    · exact h
  · intro h
    simp only [insL, List.mem_append, List.mem_cons, List.mem_filter]
    by_cases h1 : slt p.1 k = true
    · exact .inl ⟨h, h1⟩
    · by_cases h2 : slt k p.1 = true
      · exact .inr (.inr ⟨h, h2⟩)
      · exact absurd (slt_or h1 h2) hp
theorem look_same {S U : Sh} (hS : Asc S.kv) (hU : Asc U.kv) {k : ByteArray} (h : ∀ v, (k, v) ∈ S.kv ↔ (k, v) ∈ U.kv) : S.look k = U.look k := by
  cases hs : S.look k with
  | some v => exact ((look_kv k hU v).2 ((h v).1 ((look_kv k hS v).1 hs))).symm
  | none =>
    cases hu : U.look k with
    | none => rfl
    | some v =>
      have := (look_kv k hS v).2 ((h v).2 ((look_kv k hU v).1 hu))
      rw [hs] at this
      cases this
theorem put_other {S : Sh} (h : Asc S.kv) {k k' v : ByteArray} (hk : k' ≠ k) : (putSh k v S (S.look k)).look k' = S.look k' := by
  refine look_same (asc_put h k v _) h (fun u => ?_)
  rw [show (putSh k v S (S.look k)).kv = insL S.kv k v from step_kv h ⟨1, k, v⟩]
  exact ins_keep hk
/-- One map has one shape. -/
theorem shape_uniq : ∀ {S U : Sh}, S.Heap → U.Heap → S.kv = U.kv → S = U
  | .nil, .nil, _, _, _ => rfl
  | .nil, .node k v wt l r, _, _, h => by have := congrArg List.length h; simp [Sh.kv] at this
  | .node k v wt l r, .nil, _, _, h => by have := congrArg List.length h; simp [Sh.kv] at this
  | .node k v wt l r, .node k' v' wt' l' r', hS, hU, h => by
    have t1 := top_root hS
    have t2 := top_root hU
    have h' : l.kv ++ (k, v) :: r.kv = l'.kv ++ (k', v') :: r'.kv := h
    rw [← h'] at t2
    have hl := top_uniq t1 t2 (by simp) (by have := congrArg List.length h'; simp at this ⊢; omega)
    obtain ⟨e1, e2⟩ := List.append_inj h' hl
    simp only [List.cons.injEq, Prod.mk.injEq] at e2
    obtain ⟨⟨rfl, rfl⟩, e3⟩ := e2
    obtain ⟨w1, _, _, p1, p2⟩ := hS
    obtain ⟨w2, _, _, q1, q2⟩ := hU
    rw [shape_uniq p1 q1 e1, shape_uniq p2 q2 e3, w1, w2]
/-- Each key that has another value is told. -/
theorem diff_complete {S U : Sh} (hS : Asc S.kv) (hU : Asc U.kv) {k : ByteArray} (h : S.look k ≠ U.look k) : chgOf k (S.look k) (U.look k) ∈ diffL S.kv U.kv := by
  have hr : (chgOf k (S.look k) (U.look k)).real = true := by
    cases hs : S.look k with
    | none =>
      cases hu : U.look k with
      | none => rw [hs, hu] at h; exact absurd rfl h
      | some v => simp [chgOf, Chg.real]
    | some v =>
      cases hu : U.look k with
      | none => simp [chgOf, Chg.real]
      | some u =>
        rw [hs, hu] at h
        have hvu : v ≠ u := fun e => h (by rw [e])
        simp [chgOf, Chg.real, hvu]
  rw [diff_three k hS hU, if_pos hr]
  simp
/-- The map holds what the tree does. -/
structure MapRel (m : List (ByteArray × Value)) (S : Sh) : Prop where
  get : ∀ k, mget m k = (S.look k).map Value.string
  len : m.length = S.cnt
theorem MapRel.nil : MapRel [] .nil := ⟨fun _ => rfl, rfl⟩
theorem put_cnt {S : Sh} (h : Asc S.kv) (k v : ByteArray) : (putSh k v S (S.look k)).cnt = if (S.look k).isSome then S.cnt else S.cnt + 1 := by
  have hkv : (putSh k v S (S.look k)).kv = insL S.kv k v := step_kv h ⟨1, k, v⟩
  rw [cnt_kv, hkv]
  cases hl : S.look k with
  | some u => rw [(ins_len h k v).2 ⟨u, (look_kv k h u).1 hl⟩, cnt_kv]; rfl
  | none =>
    have := filt_part k S.kv (fun p hp e => by
      have := (look_kv k h p.2).2 (by rw [← e]; exact hp)
      rw [hl] at this
      cases this)
    simp only [insL, List.length_append, List.length_cons, cnt_kv, Option.isSome_none, Bool.false_eq_true, if_false]
    omega
theorem MapRel.put {m : List (ByteArray × Value)} {S : Sh} (h : MapRel m S) (ha : Asc S.kv) (k v : ByteArray) : MapRel (mput m k (.string v)) (putSh k v S (S.look k)) := by
  refine ⟨fun j => ?_, ?_⟩
  · rw [mget_mput]
    by_cases e : k = j
    · subst e; rw [if_pos rfl, put_look ha]; rfl
    · rw [if_neg e, put_other ha (Ne.symm e), h.get]
  · rw [put_cnt ha]
    unfold mput
    rw [h.get]
    cases S.look k with
    | none => simp [h.len]
    | some u => simp [h.len]
/-- A tree, as the law keeps it. -/
structure TOk (w : World) (c : Nat) (T : Tr) : Prop where
  at_ : TreeAt w T
  asc : Asc T.sh.kv
  heap : T.sh.Heap
  cnt : T.cnt ≤ c
  keys : ∀ k, (T.sh.look k).isSome → k.size ≤ 100
theorem TOk.nil (w : World) (c : Nat) : TOk w c .nil := ⟨trivial, List.Pairwise.nil, trivial, Nat.zero_le _, fun k h => by cases h⟩
theorem TOk.below {w w' : World} {c : Nat} {T : Tr} (h : TOk w c T) (hb : Below w.heap.size w w') : TOk w' c T := ⟨h.at_.below hb, h.asc, h.heap, h.cnt, h.keys⟩
theorem TOk.mono {w : World} {c c' : Nat} {T : Tr} (h : TOk w c T) (hc : c ≤ c') : TOk w c' T := ⟨h.at_, h.asc, h.heap, Nat.le_trans h.cnt hc, h.keys⟩
/-- What a put leaves, a del. -/
structure PutPost (w : World) (c : Nat) (T : Tr) (k : ByteArray) (o : Option ByteArray) (w' : World) (X : Tr) : Prop where
  ok : TOk w' (c + 1) X
  bel : Below w.heap.size w w'
  own : X.sh.look k = o
  oth : ∀ j, j ≠ k → X.sh.look j = T.sh.look j
  shp : ∀ v, o = some v → X.sh = putSh k v T.sh (T.sh.look k)
/-- Loop 1: the first i pairs are put. -/
structure First (L : Prs) (i : Nat) (S : Sh) : Prop where
  cov : ∀ j, j < i → (S.look (L.getD j pdflt).1).isSome
  src : ∀ k, (S.look k).isSome → ∃ j, j < i ∧ (L.getD j pdflt).1 = k
theorem First.zero (L : Prs) : First L 0 .nil := ⟨fun j hj => by omega, fun k h => by cases h⟩
theorem First.step {L : Prs} {i c : Nat} {T X : Tr} {w w' : World} {v : ByteArray} (h : First L i T.sh) (hp : PutPost w c T (L.getD i pdflt).1 (some v) w' X) : First L (i + 1) X.sh := by
  refine ⟨fun j hj => ?_, fun k hk => ?_⟩
  · by_cases e : (L.getD j pdflt).1 = (L.getD i pdflt).1
    · rw [e, hp.own]; rfl
    · rw [hp.oth _ e]
      exact h.cov j (by
        rcases Nat.lt_or_ge j i with h | h
        · exact h
        · exact absurd (by rw [show j = i by omega]) e)
  · by_cases e : k = (L.getD i pdflt).1
    · exact ⟨i, by omega, e.symm⟩
    · rw [hp.oth _ e] at hk
      obtain ⟨j, hj, e⟩ := h.src k hk
      exact ⟨j, by omega, e⟩
/-- Loops 2 to 4: what u has is t's, or between's. -/
def Mixed (S : Sh) (B : List ByteArray) (U : Sh) : Prop := ∀ k, U.look k = none ∨ U.look k = S.look k ∨ k ∈ B
theorem Mixed.nil (S : Sh) (B : List ByteArray) : Mixed S B .nil := fun _ => .inl rfl
theorem Mixed.put {S : Sh} {B : List ByteArray} {T X : Tr} {w w' : World} {c : Nat} {k v : ByteArray} (h : Mixed S B T.sh) (hp : PutPost w c T k (some v) w' X) (hk : k ∈ B ∨ S.look k = some v) : Mixed S B X.sh := fun j => by
  by_cases e : j = k
  · subst e
    rcases hk with hk | hk
    · exact .inr (.inr hk)
    · exact .inr (.inl (by rw [hp.own, hk]))
  · rw [hp.oth _ e]; exact h j
/-- Loop 4: from i on all pairs are put. -/
def Behind (L : Prs) (S : Sh) (i : Nat) (U : Sh) : Prop := ∀ j, i ≤ j → j < L.length → U.look (L.getD j pdflt).1 = S.look (L.getD j pdflt).1
theorem Behind.put {L : Prs} {S : Sh} {i c : Nat} {T X : Tr} {w w' : World} {v : ByteArray} (h : Behind L S (i + 1) T.sh) (hp : PutPost w c T (L.getD i pdflt).1 (some v) w' X) (hv : S.look (L.getD i pdflt).1 = some v) : Behind L S i X.sh := fun j h1 h2 => by
  by_cases e : (L.getD j pdflt).1 = (L.getD i pdflt).1
  · rw [e, hp.own, hv]
  · rw [hp.oth _ e]
    exact h j (by
      rcases Nat.lt_or_ge i j with h | h
      · exact h
      · exact absurd (by rw [show j = i by omega]) e) h2
/-- u has t's, and between's from q on. -/
structure Rest (S : Sh) (B : List ByteArray) (q : Nat) (U : Sh) : Prop where
  has : ∀ k, (S.look k).isSome → U.look k = S.look k
  no : ∀ k, S.look k = none → U.look k = none ∨ ∃ j, q ≤ j ∧ j < B.length ∧ B.getD j ByteArray.empty = k
theorem Rest.skip {S U : Sh} {B : List ByteArray} {q : Nat} (h : Rest S B q U) (hs : (S.look (B.getD q ByteArray.empty)).isSome) : Rest S B (q + 1) U := by
  refine ⟨h.has, fun k hk => ?_⟩
  rcases h.no k hk with h1 | ⟨j, h1, h2, h3⟩
  · exact .inl h1
  · by_cases e : j = q
    · subst e; rw [h3, hk] at hs; cases hs
    · exact .inr ⟨j, by omega, h2, h3⟩
theorem Rest.del {S : Sh} {B : List ByteArray} {q c : Nat} {T X : Tr} {w w' : World} (h : Rest S B q T.sh) (hs : S.look (B.getD q ByteArray.empty) = none) (hp : PutPost w c T (B.getD q ByteArray.empty) none w' X) : Rest S B (q + 1) X.sh := by
  refine ⟨fun k hk => ?_, fun k hk => ?_⟩
  · have e : k ≠ B.getD q ByteArray.empty := by rintro rfl; rw [hs] at hk; cases hk
    rw [hp.oth _ e]; exact h.has k hk
  · by_cases e : k = B.getD q ByteArray.empty
    · exact .inl (by rw [e]; exact hp.own)
    · rw [hp.oth _ e]
      rcases h.no k hk with h1 | ⟨j, h1, h2, h3⟩
      · exact .inl h1
      · by_cases e2 : j = q
        · subst e2; exact absurd h3.symm e
        · exact .inr ⟨j, by omega, h2, h3⟩
theorem Rest.end_ {S U : Sh} {B : List ByteArray} {q : Nat} (h : Rest S B q U) (hq : B.length ≤ q) : ∀ k, S.look k = U.look k := fun k => by
  cases hs : S.look k with
  | some v => rw [h.has k (by rw [hs]; rfl), hs]
  | none =>
    rcases h.no k hs with h1 | ⟨j, h1, h2, _⟩
    · exact h1.symm
    · omega
/-- What is led from t towards u has, behind some changes. -/
def Led (S U : Sh) (ks : List ByteArray) (V : Sh) : Prop := ∀ k, (k ∈ ks → V.look k = U.look k) ∧ (k ∉ ks → V.look k = S.look k)
theorem Led.nil (S U : Sh) : Led S U [] S := fun k => ⟨fun h => by simp at h, fun _ => rfl⟩
theorem Led.step {S U : Sh} {ks : List ByteArray} {T X : Tr} {w w' : World} {c : Nat} {k : ByteArray} {o : Option ByteArray} (h : Led S U ks T.sh) (hp : PutPost w c T k o w' X) (ho : U.look k = o) : Led S U (ks ++ [k]) X.sh := fun j => by
  by_cases e : j = k
  · subst e; exact ⟨fun _ => by rw [hp.own, ho], fun hn => absurd (by simp) hn⟩
  · rw [hp.oth _ e]
    exact ⟨fun hm => (h j).1 (by simpa [e] using hm), fun hm => (h j).2 (fun h' => hm (by simp [h']))⟩
theorem Led.end_ {S U V : Sh} {ks : List ByteArray} (hS : Asc S.kv) (hU : Asc U.kv) (hk : ks = (diffL S.kv U.kv).map (·.key)) (h : Led S U ks V) : ∀ k, V.look k = U.look k := fun k => by
  by_cases e : S.look k = U.look k
  · by_cases hm : k ∈ ks
    · exact (h k).1 hm
    · rw [(h k).2 hm, e]
  · exact (h k).1 (by rw [hk]; exact List.mem_map.2 ⟨_, diff_complete hS hU e, rfl⟩)
end Go.Proofs.Ytkngadbeflepoaa.One
namespace Go.Proofs.Ytkngadbeflepoaa
open Go.RowKit
theorem str_mk (s : ByteArray) : (⟨s.data.toList.toArray⟩ : ByteArray) = s := by
  cases s; rfl
theorem str_size (s : ByteArray) : s.data.toList.length = s.size := rfl
theorem str_back {s : ByteArray} {most : Nat} (hs : s.size ≤ most) (hm : most < 1000000) (r : List UInt8) : (RdV.mk 0 (strL s ++ r)).str most = (s.data.toList, ⟨0, r⟩) := by
  have h := str_app' (t := s.data.toList) (most := most) (by rw [str_size]; exact hs) hm r
  rw [str_size] at h
  exact h
theorem last_app {x : LastV} (hx : LastFit x) (r : List UInt8) : (RdV.mk 0 (lastB x ++ r)).last = (x, ⟨0, r⟩) := by
  have hseq := x.seq.isLt
  have hp : (RdV.mk 0 (lastB x ++ r)).lastP = (x, ⟨0, r⟩) := by
    unfold RdV.lastP lastB
    by_cases h0 : x.seq.toNat = 0
    · rw [if_pos h0, List.append_nil, below_app (by omega) (by omega), h0, if_pos rfl, hx.zero h0]
    · rw [if_neg h0, List.append_assoc, below_app (by omega) (by omega), if_neg h0]
      have hc : (UInt8.ofNat x.code).toNat = x.code := by have := hx.code; simp; omega
      simp only [List.cons_append, byte_app]
      rw [str_back hx.text (by omega)]
      simp only [hc, str_mk]
      have hs : BitVec.ofNat 32 x.seq.toNat = x.seq := by simp
      rw [hs]
  unfold RdV.last
  rw [hp]
  simp only
  rw [if_neg (by have := hx.code; omega)]
end Go.Proofs.Ytkngadbeflepoaa
namespace Go.Proofs.Ytkngadbeflepoaa
open Go.RowKit
theorem putSh_heap {S : Sh} (h : S.Heap) (ha : Asc S.kv) (k v : ByteArray) : (putSh k v S (S.look k)).Heap := by
  unfold putSh
  split
  · exact h
  · exact heap_put k v h ha
theorem end_nil : (RdV.mk 0 []).end_ = ⟨0, []⟩ := by unfold RdV.end_; rw [if_pos rfl]
end Go.Proofs.Ytkngadbeflepoaa
namespace Go.Proofs.Ytkngadbeflepoaa
open Go.RowKit
def EOk (R : RdV) : Prop := R.e = 0 ∨ R.e = 3 ∨ R.e = 4
theorem EOk.fail {R : RdV} (h : EOk R) : EOk (R.fail 4) := by
  unfold RdV.fail
  split
  · exact .inr (.inr rfl)
  · exact h
theorem EOk.take {R : RdV} (h : EOk R) (n : Nat) : EOk (R.take n).2.2 := by
  unfold RdV.take
  split
  · split
    · exact .inl rfl
    · exact .inr (.inl rfl)
  · exact h
theorem EOk.byte {R : RdV} (h : EOk R) : EOk R.byte.2 := h.take 1
theorem EOk.wide {R : RdV} (h : EOk R) (k : Nat) : EOk (R.wide k).2 := by
  unfold RdV.wide
  split
  · split
    · exact (h.take k).fail
    · exact h.take k
  · exact h.take k
theorem EOk.num {R : RdV} (h : EOk R) : EOk R.num.2 := by
  unfold RdV.num
  split
  · exact h.byte
  · exact h.byte.wide _
theorem EOk.below {R : RdV} (h : EOk R) (n : Nat) : EOk (R.below n).2 := by
  unfold RdV.below
  split
  · split
    · exact h.num
    · exact h.num.fail
  · exact h.num
theorem EOk.str {R : RdV} (h : EOk R) (n : Nat) : EOk (R.str n).2 := (h.below _).take _
theorem EOk.lastP {R : RdV} (h : EOk R) : EOk R.lastP.2 := by
  have h1 := h.below 4294967296
  unfold RdV.lastP
  generalize R.below 4294967296 = X at *
  have h2 := h1.byte.str 64
  generalize X.2.byte.2.str 64 = Y at *
  by_cases h0 : X.1 = 0
  · rw [if_pos h0]; exact h1
  · rw [if_neg h0]; exact h2
theorem EOk.last {R : RdV} (h : EOk R) : EOk R.last.2 := by
  have hp := h.lastP
  unfold RdV.last
  generalize R.lastP = X at *
  by_cases h0 : 3 < X.1.code
  · rw [if_pos h0]; exact hp.fail
  · rw [if_neg h0]; exact hp
theorem EOk.tabP {R : RdV} (h : EOk R) : ∀ n, EOk (R.tabP n).2
  | 0 => h
  | n + 1 => EOk.last (EOk.tabP h n)
theorem EOk.pair {R : RdV} (h : EOk R) (last : ByteArray) : EOk (R.pair last).2 := by
  have h1 := h.str 16
  unfold RdV.pair
  generalize R.str 16 = X at *
  have h2 := h1.str 64
  generalize X.2.str 64 = Y at *
  by_cases h0 : slt last ⟨X.1.toArray⟩ = true
  · rw [if_pos h0]; exact h2
  · rw [if_neg h0]; exact h2.fail
theorem EOk.keysP : ∀ (n : Nat) (S : Sh) (last : ByteArray) {R : RdV}, EOk R → EOk (RdV.keysP n S last R).2
  | 0, _, _, _, h => h
  | n + 1, S, last, R, h => by
    have hp := h.pair last
    unfold RdV.keysP
    generalize R.pair last = X at *
    by_cases h0 : X.2.e = 0
    · rw [if_pos h0]; exact EOk.keysP n _ _ hp
    · rw [if_neg h0]; exact hp
theorem EOk.keys {R : RdV} (h : EOk R) : EOk R.keys.2 := by
  have h1 := h.below 257
  unfold RdV.keys
  generalize R.below 257 = X at *
  exact EOk.keysP _ _ _ h1
theorem EOk.tab {R : RdV} (h : EOk R) : EOk R.tab.2 := by
  have h1 := EOk.tabP h 4
  unfold RdV.tab
  generalize R.tabP 4 = X at *
  exact h1
theorem EOk.step {X : RdV × MacV} (h : EOk X.1) (i : Nat) : EOk (ofStep i X).1 := by
  have h1 := h.byte
  have h2 := h.tab
  have h3 := h.keys
  unfold ofStep
  generalize X.1.byte = A at *
  generalize X.1.tab = B at *
  generalize X.1.keys = C at *
  by_cases e0 : i = 0
  · rw [if_pos e0]; exact h1
  · rw [if_neg e0]
    by_cases e1 : i = 1
    · rw [if_pos e1]; exact h1
    · rw [if_neg e1]
      by_cases e2 : i = 2
      · rw [if_pos e2]; exact h2
      · rw [if_neg e2]; exact h3
theorem both_idem (x : Nat) : bothS (bothS x x) (bothS x x) = bothS x x := by
  unfold bothS
  rw [Nat.and_self, Nat.and_self, Nat.and_assoc, Nat.and_self]
theorem may_both (s all : Nat) : mayS (bothS s s) all = mayS s all := by
  have h : bothS s s = s &&& 127 := by unfold bothS; rw [Nat.and_self]
  unfold mayS withoutS
  rw [h, Nat.and_assoc, Nat.and_self]
  congr 2
  rw [show s &&& 127 &&& (255 - all) &&& 127 = s &&& (255 - all) &&& 127 by
    rw [Nat.and_assoc s 127, Nat.and_comm 127, ← Nat.and_assoc, Nat.and_assoc _ 127 127, Nat.and_self]]
/-- A machine, with its sets and its shape. -/
structure MacAll (M : MacV) : Prop where
  fit : MacFit M
  heap : M.sh.Heap
  sets : setsOk M = true
theorem sets_eq {M : MacV} (h : setsOk M = true) : mayS M.mem M.all = true ∧ M.all = bothS M.all M.all ∧ M.mem = bothS M.mem M.mem := by
  unfold setsOk at h
  simp only [Bool.and_eq_true, decide_eq_true_eq] at h
  exact ⟨h.1.1, h.1.2, h.2⟩
theorem sets_mk {M : MacV} (h1 : mayS M.mem M.all = true) (h2 : M.all = bothS M.all M.all) (h3 : M.mem = bothS M.mem M.mem) : setsOk M = true := by
  unfold setsOk
  rw [h1, ← h2, ← h3]
  simp
theorem delSh_heap {S : Sh} (h : S.Heap) (ha : Asc S.kv) (k : ByteArray) : (delSh k S (S.look k)).Heap := by
  unfold delSh
  split
  · exact h
  · exact heap_del k h ha
theorem kvDo_heap {S : Sh} (h : S.Heap) (ha : Asc S.kv) (c : CmdV) : (kvDo S c).sh.Heap := by
  have hp := putSh_heap h ha c.key c.fresh
  have hd := delSh_heap h ha c.key
  unfold kvDo
  split
  · split
    · unfold kvGet; split <;> exact h
    · split
      · unfold kvPut
        cases hl : S.look c.key with
        | none => rw [hl] at hp; simp only; split; exact h; exact hp
        | some v => rw [hl] at hp; exact hp
      · split
        · unfold kvDel
          cases hl : S.look c.key with
          | none => exact h
          | some v => rw [hl] at hd; exact hd
        · split
          · unfold kvCas
            cases hl : S.look c.key with
            | none => exact h
            | some v => rw [hl] at hp; simp only; split; exact hp; exact h
          · exact h
  · exact h
theorem macFresh_all {M : MacV} (h : MacAll M) (c : CmdV) : (macFresh M c).1.sh.Heap ∧ setsOk (macFresh M c).1 = true := by
  obtain ⟨s1, s2, s3⟩ := sets_eq h.sets
  unfold macFresh
  split
  · split
    · rename_i hm
      exact ⟨h.heap, sets_mk (by show mayS (bothS c.set.toNat c.set.toNat) M.all = true; rw [may_both]; exact hm) s2 (both_idem _).symm⟩
    · exact ⟨h.heap, h.sets⟩
  · exact ⟨kvDo_heap h.heap h.fit.kv.asc c, sets_mk s1 s2 s3⟩
theorem macDo_all {M : MacV} (h : MacAll M) (c : CmdV) : MacAll (macDo M c).m := by
  refine ⟨macDo_fit h.fit c, ?_, ?_⟩
  · unfold macDo
    split
    · split
      · exact (macFresh_all h c).1
      · exact h.heap
    · exact h.heap
  · unfold macDo
    split
    · split
      · obtain ⟨s1, s2, s3⟩ := sets_eq (macFresh_all h c).2
        exact sets_mk s1 s2 s3
      · exact h.sets
    · exact h.sets
end Go.Proofs.Ytkngadbeflepoaa
namespace Go.Proofs.Ytkngadbeflepoaa
open Go.RowKit
theorem macsDo_all : ∀ (l : List CmdV) {M : MacV}, MacAll M → MacAll (macsDo M l)
  | [], _, h => h
  | c :: r, _, h => macsDo_all r (macDo_all h c)
end Go.Proofs.Ytkngadbeflepoaa
namespace Go.Proofs.Ytkngadbeflepoaa
open Go.RowKit
theorem macFit_by {M : MacV} (h : MacFit M) : MacBy M := by
  have ht : ∀ n, LastOk (M.tab.at_ n) := fun n => ⟨by have := (h.tab n).code; omega, by have := (h.tab n).text; omega⟩
  exact ⟨by have := h.all; omega, by have := h.mem; omega, ⟨ht 0, ht 1, ht 2, ht 3⟩, by have := h.kv.num; omega, fun p hp => ⟨by have := (h.key p hp).2; omega, by have := h.kv.val p hp; omega⟩⟩
theorem newM_parts (al fi : Nat) : (newM al fi).tab = tabNone ∧ (newM al fi).sh = .nil := by
  unfold newM
  split <;> exact ⟨rfl, rfl⟩
end Go.Proofs.Ytkngadbeflepoaa
namespace Go.Proofs.Ytkngadbeflepoaa
open Go.RowKit
theorem macB_len {M : MacV} (h : MacFit M) : (macB M).length ≤ maxLen := by
  have h1 := macHead_len (macFit_by h)
  have h2 := pairsB_len M.sh.kv (macFit_by h).kv
  have h3 := h.kv.num
  rw [cnt_kv] at h3
  unfold macB maxLen
  rw [List.length_append]
  omega
theorem shp_nil {X : Tr} (h : X.sh = .nil) : X = .nil := by
  cases X with
  | nil => rfl
  | node => cases h
end Go.Proofs.Ytkngadbeflepoaa
