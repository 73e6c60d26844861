/- A range over a map that loses entries meanwhile: what a step does; what is left at the end. Over any program; no condition. -/
import Derived.Test.YtimhpncdlaildaaMap
import Derived.Laws.IdiomRangeMap
namespace Go.Proofs.Ytimhpncdlaildaa
open Go.RowKit
open Go.MapKept

def setObjW (w : World) (r : Nat) (o : Obj) : World := { w with heap := w.heap.setIfInBounds r o }

/-- 'next', wherever the iterator lies: nothing is left; or one entry that is left comes out, whichever. -/
theorem run_next_at {P : Program} {w : World} {r B since last : Nat} {seen : Array Nat} {es : Array MapEntry} {clock : Nat} (hi : w.heap[r]? = some (.mapIter (some B) since seen last))
    (hb : w.heap[B]? = some (.map es clock)) (hold : ∀ x ∈ es.toList, x.born < since) (hsc : since ≤ last) :
    ((∀ x ∈ es.toList, seen.contains x.born = true) ∧ ∀ ty, (Instr.next (.pointer (some ⟨r, 0, none⟩)) false ty).run P w = .ok (.tuple #[.bool false]) w) ∨
    ∃ e ∈ es.toList, seen.contains e.born = false ∧ ∃ w1 : World, (w1 = w ∨ w1 = w.drew) ∧
      ∀ ty, (Instr.next (.pointer (some ⟨r, 0, none⟩)) false ty).run P w = .ok (.tuple #[.bool true, e.key, e.val]) (setObjW w1 r (.mapIter (some B) since (seen.push e.born) clock)) := by
  simp only [Instr.next, getObj, Sem.run_bind, Sem.run, hi, hb, Result.andThen, next_test_false seen es since last hold hsc, Bool.false_eq_true, if_false]
  have hmem : ∀ x ∈ (Array.filter (fun e => !seen.contains e.born) es).toList, x.born < since := fun x hx => hold x (by simp at hx ⊢; exact hx.1)
  have hin : ∀ x ∈ (Array.filter (fun e => !seen.contains e.born) es).toList, x ∈ es.toList ∧ seen.contains x.born = false := fun x hx => mem_left hx
  have hall : (Array.filter (fun e => !seen.contains e.born) es).size = 0 → ∀ x ∈ es.toList, seen.contains x.born = true := all_seen es seen
  generalize Array.filter (fun e => !seen.contains e.born) es = L at hmem hin hall ⊢
  have e1 : L.filter (fun x => decide (x.born < since)) = L := Array.filter_eq_self.2 (fun x hx => by simpa using hmem x (by simpa using hx))
  have e2 : L.filter (fun x => decide (x.born ≥ since)) = #[] := by
    rw [Array.filter_eq_empty_iff]
    intro x hx
    have := hmem x (by simpa using hx)
    simp
    omega
  simp only [e1, e2, Array.append_empty]
  by_cases h0 : L.size = 0
  · left
    refine ⟨hall h0, fun _ => ?_⟩
    have : L = #[] := Array.eq_empty_of_size_eq_zero h0
    subst this
    simp [choose, Sem.run, Question.forced]
  · right
    have hne : L.isEmpty = false := by simp [Array.isEmpty, h0]
    simp only [hne, Bool.false_eq_true, if_false, Array.empty_append, Array.size_map]
    have hch : ∃ (j : Nat) (w1 : World), j < L.size ∧ (w1 = w ∨ w1 = w.drew) ∧ (choose (Question.mapNext L.size)).run P w = .ok j w1 := by
      by_cases hf : L.size ≤ 1
      · exact ⟨0, w, by omega, .inl rfl, by simp [choose, Sem.run, Question.forced, hf]⟩
      · exact ⟨_, w.drew, Nat.mod_lt _ (by omega), .inr rfl, by
          simp only [choose, Sem.run, Question.forced, decide_eq_true_eq, hf, if_false, Question.cut]
          rfl⟩
    obtain ⟨j, w1, hj, hal, hrun⟩ := hch
    have hm := hin L[j] (by simp)
    refine ⟨L[j], hm.1, hm.2, w1, hal, fun _ => ?_⟩
    have hw1 : w1.heap[r]? = some (.mapIter (some B) since seen last) := by rcases hal with rfl | rfl <;> exact hi
    have hset : ∀ o', (setObj r o').run P w1 = .ok () (setObjW w1 r o') := fun o' => by
      simp only [setObj, Sem.run, hw1]
      rfl
    simp only [hrun, Array.getElem?_map, Array.getElem?_eq_getElem hj, Option.map_some, Sem.run_bind, hset, Result.andThen]
    rfl

theorem run_entry_at {P : Program} {w : World} {r B since : Nat} {seen : Array Nat} {es : Array MapEntry} {clock : Nat} {e : MapEntry} (hi : w.heap[r]? = some (.mapIter (some B) since (seen.push e.born) clock))
    (hb : w.heap[B]? = some (.map es clock)) (he : e ∈ es.toList) (hn : (es.toList.map (·.born)).Nodup) :
    (Instr.entry (.pointer (some ⟨r, 0, none⟩))).run P w = .ok (.tuple #[e.key, e.val]) w := by
  have hf : es.find? (·.born == e.born) = some e := by rw [← Array.find?_toList]; exact find_born e es.toList hn he
  simp [Instr.entry, getObj, Sem.run, hi, hb, hf, Sem.run_bind, Result.andThen]

theorem setObj_size (w : World) (r : Nat) (o : Obj) : (setObjW w r o).heap.size = w.heap.size := by simp [setObjW]
theorem setObj_same {w : World} {r : Nat} (h : r < w.heap.size) (o : Obj) : (setObjW w r o).heap[r]? = some o := Array.getElem?_setIfInBounds_self_of_lt h
theorem setObj_other (w : World) {r k : Nat} (h : k ≠ r) (o : Obj) : (setObjW w r o).heap[k]? = w.heap[k]? := Array.getElem?_setIfInBounds_ne (fun e => h e.symm)
theorem grown_setObj {w w1 : World} {row : Option Nat} {r : Nat} (h : w.grownBy w1 row) (hr : w.heap.size ≤ r ∨ row = some r) (o : Obj) : w.grownBy (setObjW w1 r o) row :=
  ⟨h.os, h.tape, h.output, by rw [setObj_size]; exact h.size, fun k hk hne => by
    rw [setObj_other _ (by rcases hr with hr | hr; omega; intro e; subst e; exact hne hr.symm)]; exact h.block k hk hne⟩
theorem grown_drew {w w1 : World} {row : Option Nat} (h : w.grownBy w1 row) : w.grownBy w1.drew row := ⟨h.os, h.tape, h.output, h.size, h.block⟩

section
variable {P : Program} {T : TypeId} {α : Type} [DecidableEq α] (K : KeyEnc P T α)

theorem erase_born : ∀ (es : List MapEntry) (j : Nat) (e : MapEntry), (es.map (·.born)).Nodup → es[j]? = some e → es.eraseIdx j = es.filter fun x => x.born != e.born
  | [], _, _, _, h => by simp at h
  | x :: es, 0, e, hn, h => by
    obtain rfl : x = e := by simpa using h
    have hn' : x.born ∉ es.map (·.born) ∧ _ := List.nodup_cons.1 hn
    simp only [List.eraseIdx_cons_zero, List.filter_cons, bne_self_eq_false, Bool.false_eq_true, if_false]
    symm
    apply List.filter_eq_self.2
    intro y hy
    rw [bne_iff_ne]
    intro he
    exact hn'.1 (by rw [← he]; exact List.mem_map_of_mem hy)
  | x :: es, j + 1, e, hn, h => by
    have hn' : x.born ∉ es.map (·.born) ∧ (es.map (·.born)).Nodup := List.nodup_cons.1 hn
    have h' : es[j]? = some e := by simpa using h
    have hne : x.born ≠ e.born := fun he => hn'.1 (by rw [he]; exact List.mem_map_of_mem (List.mem_of_getElem? h'))
    simp [erase_born es j e hn'.2 h', hne]

theorem enc_inj {a b : α} (h : K.enc a = K.enc b) : a = b := by
  have h1 := K.same a b
  have h2 := K.same a a
  rw [h, K.same b b] at h2
  rw [h, K.same b b] at h1
  simpa using h1.symm

/-- delete(m, k), k being the key of an entry: that entry alone goes. -/
theorem run_delete_entry {w : World} {B : Nat} {es : Array MapEntry} {clock : Nat} {l : List (α × Value)} (hb : w.heap[B]? = some (.map es clock)) (he : Ents K es clock l) {t E : TypeId} (ht : P.underlying t = some (.map T E)) (u ty : TypeId) {e : MapEntry} (hm : e ∈ es.toList) :
    ∃ es' : Array MapEntry, (Builtin.delete_ #[t, u] ty #[.map (some B), e.key]).run P w = .ok (.tuple #[]) (setObjW w B (.map es' clock)) ∧ es'.toList = es.toList.filter fun x => x.born != e.born := by
  obtain ⟨i, hi⟩ := List.getElem?_of_mem hm
  have hsz := he.size
  have hilt : i < es.size := by
    have := (List.getElem?_eq_some_iff.1 hi).1
    simpa using this
  have hrd := congrArg (fun x => x[i]?) he.read
  simp only [List.getElem?_map, hi, Option.map_some] at hrd
  have hli : l[i]? = some (l[i]'(by omega)) := List.getElem?_eq_getElem (by omega)
  rw [hli] at hrd
  simp only [Option.map_some, Option.some.injEq, Prod.mk.injEq] at hrd
  obtain ⟨hk, hv⟩ := hrd
  rw [hk]
  obtain ⟨r, h1, h2⟩ := run_findKey_list K (w := w) he (l[i]'(by omega)).1
  rcases h2 with ⟨rfl, hg, hall⟩ | ⟨j, v0, rfl, hg, hj, ha, hbef⟩
  · exact absurd rfl (hall _ (List.mem_of_getElem? hli))
  · have hji : j = i := by
      have hlj : l[j]? = some (l[j]'(by omega)) := List.getElem?_eq_getElem (by omega)
      have h3 := ha _ hlj
      have h4 : (l.map (·.1))[j]? = (l.map (·.1))[i]? := by rw [List.getElem?_map, List.getElem?_map, hlj, hli]; simp [h3]
      exact (List.getElem?_inj (by simp; omega) he.nodup).1 h4
    subst hji
    refine ⟨es.eraseIdxIfInBounds j, ?_, ?_⟩
    · simp [Builtin.delete_, run_underlying ht, MapKept.run_getObj_map hb, K.ck 9999, h1, MapKept.run_setObj_map _ hb, Sem.run_bind, Result.andThen, setObjW]
    · have e1 : (es.eraseIdxIfInBounds j).toList = es.toList.eraseIdx j := by simp [Array.eraseIdxIfInBounds, hilt]
      rw [e1]
      exact erase_born es.toList j e he.born hi

/-- Entries that are some of es are some of the list. -/
theorem Ents.filter {es es' : Array MapEntry} {clock : Nat} {l : List (α × Value)} (h : Ents K es clock l) (p : MapEntry → Bool) (h' : es'.toList = es.toList.filter p) : ∃ l', Ents K es' clock l' ∧ ∀ (q : α → Bool), (∀ e ∈ es.toList, ∀ a, e.key = K.enc a → p e = q a) → l' = l.filter fun x => q x.1 := by
  have key : ∀ (es : List MapEntry) (l : List (α × Value)), es.map (fun e => (e.key, e.val)) = l.map (fun p => (K.enc p.1, p.2)) →
      ∃ l', (es.filter p).map (fun e => (e.key, e.val)) = l'.map (fun p => (K.enc p.1, p.2)) ∧ l'.Sublist l ∧ ∀ (q : α → Bool), (∀ e ∈ es, ∀ a, e.key = K.enc a → p e = q a) → l' = l.filter fun x => q x.1 := by
    intro es
    induction es with
    | nil =>
      intro l hl
      cases l with
      | nil => exact ⟨[], rfl, List.Sublist.refl _, fun _ _ => rfl⟩
      | cons => simp at hl
    | cons e es ih =>
      intro l hl
      cases l with
      | nil => simp at hl
      | cons x l =>
        simp only [List.map_cons, List.cons.injEq, Prod.mk.injEq] at hl
        obtain ⟨⟨hk, hv⟩, ht⟩ := hl
        obtain ⟨l', h1, h2, h3⟩ := ih l ht
        by_cases hp : p e = true
        · refine ⟨x :: l', by simp [hp, hk, hv, h1], h2.cons_cons x, fun q hq => ?_⟩
          have := hq e (by simp) x.1 hk
          rw [hp] at this
          simp only [List.filter_cons, ← this, if_true]
          rw [h3 q (fun e he => hq e (by simp [he]))]
        · have hp' : p e = false := by simpa using hp
          refine ⟨l', by simp [hp', h1], h2.cons x, fun q hq => ?_⟩
          have := hq e (by simp) x.1 hk
          rw [hp'] at this
          simp only [List.filter_cons, ← this, Bool.false_eq_true, if_false]
          exact h3 q (fun e he => hq e (by simp [he]))
  obtain ⟨l', h1, h2, h3⟩ := key es.toList l h.read
  refine ⟨l', ⟨by rw [h', h1], (h2.map _).nodup h.nodup, ?_, ?_⟩, h3⟩
  · rw [h']; exact ((List.filter_sublist).map _).nodup h.born
  · intro e he
    rw [h'] at he
    exact h.old e ((List.mem_filter.1 he).1)
end
end Go.Proofs.Ytimhpncdlaildaa
