/- Whole structs loaded and stored, as the walk meets them: facts for its simp. Over any program. No condition. -/
import Derived.Test.YtjjlodeiejobdaaDoorMaD
import Derived.Deep.MidRow
namespace Go.Proofs.YtjjlodeiejobdaaDoor
open Go.RowKit
theorem st_eq {g : Nat} : ∀ (vs : List Value) (i : Nat) (y : World), y.setCells g i vs = rowSt y g i vs
  | [], _, _ => rfl
  | _ :: r, i, _ => st_eq r (i + 1) _
theorem range_row {y : World} {g : Nat} {cs : List Value} {t : TypeId} (h : y.heap[g]? = some (.cells cs.toArray t (0, 0))) : y.rangeAt g 0 cs := fun j v hv => by
  rw [Nat.zero_add]
  simp only [World.cell?, h]
  simpa using hv
theorem there_row {y : World} {g : Nat} {cs : List Value} {t : TypeId} (h : y.heap[g]? = some (.cells cs.toArray t (0, 0))) : y.there g 0 cs.length := fun j hj => ⟨by
  rw [Nat.zero_add]
  simp only [World.cell?, h]
  simp [hj], by
  rw [Nat.zero_add]
  unfold World.frozen?
  rw [h]
  rfl⟩
/-- A whole variable is loaded. -/
theorem row_loadAt {P : Program} {y : World} {g : Nat} {cs : List Value} {t : TypeId} {d : TypeDesc} (h : y.heap[g]? = some (.cells cs.toArray t (0, 0))) (hu : P.underlying t = some d) (hd : d.isRow = true) (hs : (P.info? t).map (·.size) = some cs.length) :
    (Instr.loadAt t (.pointer (some ⟨g, 0, none⟩))).run P y = .ok (.agg cs.toArray) y := run_loadAt_mid y g 0 t cs d (range_row h) hu hd hs
/-- A whole variable is stored. -/
theorem row_storeAt {P : Program} {y : World} {g : Nat} {cs0 : List Value} {t : TypeId} (cs : List Value) (h : y.heap[g]? = some (.cells cs0.toArray t (0, 0))) (hl : cs0.length = cs.length) (hs : (P.info? t).map (·.size) = some cs.length) (h1 : ∀ v ∈ cs, v.oneCell' = true) :
    (Instr.storeAt t (.pointer (some ⟨g, 0, none⟩)) (.agg cs.toArray)).run P y = .ok () (rowSt y g 0 cs) := by
  rw [← st_eq]
  exact run_storeAt_mid y g 0 t cs.toArray (by simpa [hl] using there_row h) (by simpa using hs) (all_oneCell_toArray h1)
/-- A field of many cells is stored, into the middle of a variable. -/
theorem mid_storeAt {P : Program} {y : World} {g : Nat} {pre old post : List Value} {t e : TypeId} (cs : List Value) (h : y.heap[g]? = some (.cells (pre ++ old ++ post).toArray t (0, 0))) (hl : old.length = cs.length) (hs : (P.info? e).map (·.size) = some cs.length) (h1 : ∀ v ∈ cs, v.oneCell' = true) :
    (Instr.storeAt e (.pointer (some ⟨g, pre.length, none⟩)) (.agg cs.toArray)).run P y = .ok () (rowSt y g pre.length cs) := by
  rw [← st_eq]
  refine run_storeAt_mid y g pre.length e cs.toArray (fun j hj => ?_) (by simpa using hs) (all_oneCell_toArray h1)
  have hj' : pre.length + j < (pre ++ old ++ post).length := by
    simp at hj
    simp
    omega
  have k := there_row h (pre.length + j) hj'
  rwa [Nat.zero_add] at k
theorem mid_row {g : Nat} {t : TypeId} : ∀ (vs pre old post : List Value) (y : World), y.heap[g]? = some (.cells (pre ++ old ++ post).toArray t (0, 0)) → old.length = vs.length → (rowSt y g pre.length vs).heap[g]? = some (.cells (pre ++ vs ++ post).toArray t (0, 0))
  | [], pre, old, post, y, h, hl => by
    have : old = [] := List.length_eq_zero_iff.1 hl
    subst this
    exact h
  | v :: r, pre, [], post, y, h, hl => by simp at hl
  | v :: r, pre, o :: old, post, y, h, hl => by
    have e := mid_row r (pre ++ [v]) old post (y.setCell ⟨g, pre.length, none⟩ v) (by
      rw [heap_setCell_same _ _ _ _ _ _ h]
      congr 2
      simp) (by simpa using hl)
    rw [List.length_append, List.length_singleton] at e
    show (rowSt (y.setCell ⟨g, pre.length, none⟩ v) g (pre.length + 1) r).heap[g]? = _
    rw [e]
    simp
/-- A field of many cells is loaded, out of the middle of a variable. -/
theorem mid_loadAt {P : Program} {y : World} {g : Nat} {pre cs post : List Value} {t e : TypeId} {d : TypeDesc} (h : y.heap[g]? = some (.cells (pre ++ cs ++ post).toArray t (0, 0))) (hu : P.underlying e = some d) (hd : d.isRow = true) (hs : (P.info? e).map (·.size) = some cs.length) :
    (Instr.loadAt e (.pointer (some ⟨g, pre.length, none⟩))).run P y = .ok (.agg cs.toArray) y :=
  run_loadAt_mid y g pre.length e cs d (fun j v hv => by
    have k := range_row h (pre.length + j) v (by
      rw [List.append_assoc, List.getElem?_append_right (by omega), Nat.add_sub_cancel_left, List.getElem?_append_left (List.getElem?_eq_some_iff.1 hv).1]
      exact hv)
    rwa [Nat.zero_add] at k) hu hd hs
/-- A load, as an operation of a region, by what is loaded. -/
theorem exec_load {P : Program} {ρ : Operand → Value} {o : Oper} {t : TypeId} {a : Operand} (h : o.op = .load t a) {p : Value} (ha : ρ a = p) {y : World} {V : Value} (hr : (Instr.loadAt t p).run P y = .ok V y) : (execOp ρ o).run P y = .ok (.value V) y := by
  simp only [execOp, h, ha, Sem.run_bind, hr, Result.andThen_ok, Sem.run_pure]
/-- A new variable, and what is stored into it. -/
theorem box_row (y : World) (cs0 cs : List Value) (t : TypeId) (hl : cs0.length = cs.length) : ((y.alloc (.cells cs0.toArray t)).setCells y.heap.size 0 cs).heap[y.heap.size]? = some (.cells cs.toArray t (0, 0)) := by
  rw [st_eq]
  exact rowSt_row cs [] cs0 _ (heap_alloc_new _ _) hl
theorem box_below (y : World) (cs0 cs : List Value) (t : TypeId) : Below y.heap.size y ((y.alloc (.cells cs0.toArray t)).setCells y.heap.size 0 cs) := by
  rw [st_eq]
  exact rowSt_below (Nat.le_refl _) cs 0 _ ((Below.refl _ _).alloc (Nat.le_refl _) _)
theorem box_size (y : World) (cs0 cs : List Value) (t : TypeId) : y.heap.size < ((y.alloc (.cells cs0.toArray t)).setCells y.heap.size 0 cs).heap.size := by
  rw [st_eq]
  have := (rowSt_below (Nat.zero_le _) cs 0 _ (Below.refl 0 (y.alloc (.cells cs0.toArray t))) (g := y.heap.size)).size
  rw [World.size_alloc] at this
  exact this
end Go.Proofs.YtjjlodeiejobdaaDoor
