/- Sessions: Keep, of a fresh command. Condition: the client is one of four, the number is greater than its last one. -/
import Derived.Test.YtjjlodeiejobdaaDoorKvB
import Derived.Test.YtjjlodeiejobdaaDoorTrD
import Derived.Test.YtjjlodeiejobdaaDoorOpen
import Derived.Test.YtjjlodeiejobdaaDoorCrcA
import Derived.OwnWalk
import Derived.Maps.AppendAt
import Derived.Laws.AppendOwnNone
import Derived.Deep.DeepCutAuto
import Derived.Test.YtjjlodeiejobdaaDoorRows
import Derived.WalkKit
import Derived.WalkSpells
import Derived.WalkLawsBesides
import Derived.Lib.Hide
import Derived.Laws.BitsAllLaws
namespace Go.Proofs.YtjjlodeiejobdaaDoor
open Go.RowKit
/-- The world behind the store of a row of values, cell by cell. -/
def rowSt (y : World) (g : Nat) : Nat → List Value → World
  | _, [] => y
  | i, v :: r => rowSt (y.setCell ⟨g, i, none⟩ v) g (i + 1) r
theorem rowSt_row {g : Nat} {t : TypeId} : ∀ (vs pre old : List Value) (y : World), y.heap[g]? = some (.cells (pre ++ old).toArray t (0, 0)) → old.length = vs.length → (rowSt y g pre.length vs).heap[g]? = some (.cells (pre ++ vs).toArray t (0, 0))
  | [], pre, old, y, h, hl => by
    have : old = [] := List.length_eq_zero_iff.1 hl
    subst this
    exact h
  | v :: r, pre, old, y, h, hl => by
    match old, hl with
    | o :: os, hl =>
      have h1 : (y.setCell ⟨g, pre.length, none⟩ v).heap[g]? = some (.cells ((pre ++ [v]) ++ os).toArray t (0, 0)) := by
        rw [heap_setCell_same _ _ _ _ _ _ h]
        simp
      have h2 := rowSt_row r (pre ++ [v]) os _ h1 (by simpa using hl)
      rw [List.length_append] at h2
      simp only [List.append_assoc, List.singleton_append] at h2
      exact h2
theorem rowSt_below {g n : Nat} {w0 : World} (hn : n ≤ g) : ∀ (vs : List Value) (i : Nat) (y : World), Below n w0 y → Below n w0 (rowSt y g i vs)
  | [], _, _, h => h
  | _ :: r, i, _, h => rowSt_below hn r (i + 1) _ (below_setV h hn)
theorem rowSt_other {g q : Nat} (hq : q ≠ g) : ∀ (vs : List Value) (i : Nat) (y : World), (rowSt y g i vs).heap[q]? = y.heap[q]?
  | [], _, _ => rfl
  | _ :: r, i, _ => (rowSt_other hq r (i + 1) _).trans (Below.heap_setCell _ _ _ _ (by exact hq))
end Go.Proofs.YtjjlodeiejobdaaDoor
