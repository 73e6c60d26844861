/- Trees: change; trees that lie below one block or from another one on. No condition. -/
import Derived.Test.YtkngadbeflepoaaMMachinePlays30
import Derived.Test.YtkngadbeflepoaaMMachinePlays31
namespace Go.Proofs.Ytkngadbeflepoaa
open Go.RowKit Go.Shelf

def chgCells (o n : ByteArray) (a b : Bool) : Array Value := #[.string o, .string n, .bool a, .bool b]
def ChgAt (w : World) (g : Nat) (o n : ByteArray) (a b : Bool) : Prop := w.heap[g]? = some (.cells (chgCells o n a b) 167 (0, 0))
section
variable {w w' : World} {g i : Nat} {o n o' n' : ByteArray} {a b a' b' : Bool} {x : Value}
theorem ChgAt.cells (h : ChgAt w g o n a b) : w.cell? ⟨g, 0, none⟩ = some (.string o) ∧ w.cell? ⟨g, 1, none⟩ = some (.string n) ∧ w.cell? ⟨g, 2, none⟩ = some (.bool a) ∧ w.cell? ⟨g, 3, none⟩ = some (.bool b) :=
  ⟨cell_of_row _ _ _ _ _ _ h, cell_of_row _ _ _ _ _ _ h, cell_of_row _ _ _ _ _ _ h, cell_of_row _ _ _ _ _ _ h⟩
theorem ChgAt.thawed (h : ChgAt w g o n a b) (j : Nat) : w.frozen? ⟨g, j, none⟩ = false := by
  unfold ChgAt at h
  simp [World.frozen?, h]
theorem ChgAt.lt (h : ChgAt w g o n a b) : g < w.heap.size := (Array.getElem?_eq_some_iff.1 h).1
theorem ChgAt.below (h : ChgAt w g o n a b) (hb : Below w.heap.size w w') : ChgAt w' g o n a b := (hb.block g h.lt).trans h
theorem ChgAt.set (h : ChgAt w g o n a b) (hx : (chgCells o n a b).setIfInBounds i x = chgCells o' n' a' b') : ChgAt (w.setCell ⟨g, i, none⟩ x) g o' n' a' b' := by
  unfold ChgAt
  rw [heap_setCell_same _ _ _ _ _ _ h, hx]
theorem ChgAt.other {g' : Nat} (h : ChgAt w g o n a b) (hne : g ≠ g') : ChgAt (w.setCell ⟨g', i, none⟩ x) g o n a b := (Below.heap_setCell _ _ _ _ (by exact hne)).trans h
end
theorem chg_zero : chgCells ByteArray.empty ByteArray.empty false false = #[.string ByteArray.empty, .string ByteArray.empty, .bool false, .bool false] := rfl

set_option maxRecDepth 100000 in
set_option maxHeartbeats 2000000 in
theorem change_any (A B : Tr) (w : World) (hA : TreeAt w A) (hB : TreeAt w B) :
    Calls Try.prog 117 #[.pointer A.ptr, .pointer B.ptr] w fun e w' => e = .returned (.agg (chgCells (A.val.getD ByteArray.empty) (B.val.getD ByteArray.empty) A.val.isSome B.val.isSome)) ∧ Below w.heap.size w w' := by
  obtain ⟨R, hR⟩ : ∃ R, chgCells (A.val.getD ByteArray.empty) (B.val.getD ByteArray.empty) A.val.isSome B.val.isSome = R := ⟨_, rfl⟩
  rw [hR]
  have HR := Lib.hid hR; clear hR
  have hloA := hA.lo
  have hloB := hB.lo
  obtain ⟨g, hg⟩ : ∃ g, w.heap.size = g := ⟨_, rfl⟩
  rw [hg] at hloA hloB ⊢
  have HA := Lib.hid hA; clear hA
  have HB := Lib.hid hB; clear hB
  obtain ⟨PA, hPA⟩ : ∃ P, A.ptr = P := ⟨_, rfl⟩
  obtain ⟨PB, hPB⟩ : ∃ P, B.ptr = P := ⟨_, rfl⟩
  rw [hPA, hPB]
  go_enter Try.func117, Try.ntmps117
  go_upto_region 2 with fail
  have hb1 : Below g w ((w.alloc (.cells (chgCells ByteArray.empty ByteArray.empty false false) 167)).alloc (.cells (chgCells ByteArray.empty ByteArray.empty false false) 167)) := by
    rw [← hg]
    exact ((Below.refl _ _).alloc (Nat.le_refl _) _).alloc (by simp) _
  have hs1 : (w.alloc (.cells (chgCells ByteArray.empty ByteArray.empty false false) 167)).heap.size = g + 1 := by simp [hg]
  have hn1 : ChgAt ((w.alloc (.cells (chgCells ByteArray.empty ByteArray.empty false false) 167)).alloc (.cells (chgCells ByteArray.empty ByteArray.empty false false) 167)) (g + 1) ByteArray.empty ByteArray.empty false false := by
    have := heap_alloc_new (w.alloc (.cells (chgCells ByteArray.empty ByteArray.empty false false) 167)) (.cells (chgCells ByteArray.empty ByteArray.empty false false) 167)
    rwa [hs1] at this
  have hn0 : ChgAt ((w.alloc (.cells (chgCells ByteArray.empty ByteArray.empty false false) 167)).alloc (.cells (chgCells ByteArray.empty ByteArray.empty false false) 167)) g ByteArray.empty ByteArray.empty false false := by
    have := heap_alloc_new w (.cells (chgCells ByteArray.empty ByteArray.empty false false) 167)
    rw [hg] at this
    exact (Below.heap_alloc _ _ _ (by omega)).trans this
  change Code.wp _ _ _ _ ((w.alloc (.cells (chgCells ByteArray.empty ByteArray.empty false false) 167)).alloc (.cells (chgCells ByteArray.empty ByteArray.empty false false) 167))
  generalize (w.alloc (.cells (chgCells ByteArray.empty ByteArray.empty false false) 167)).alloc (.cells (chgCells ByteArray.empty ByteArray.empty false false) 167) = w1 at *
  clear hs1
  have Hn0 := Lib.hid hn0; clear hn0
  have Hb1 := Lib.hid hb1; clear hb1
  have HloA := Lib.hid hloA; clear hloA
  have HloB := Lib.hid hloB; clear hloB
  have Hg := Lib.hid hg; clear hg
  have HPA := Lib.hid hPA; clear hPA
  have HPB := Lib.hid hPB; clear hPB
  match A, HA, HPA, HloA, HR with
  | .nil, HA, HPA, HloA, HR =>
    obtain rfl : PA = none := HPA.out.symm
    go_upto_region 4 with fail
    match B, HB, HPB, HloB, HR with
    | .nil, HB, HPB, HloB, HR =>
      obtain rfl : PB = none := HPB.out.symm
      obtain ⟨e0, e1, e2, e3⟩ := hn1.cells
      obtain ⟨d0, d1, d2, d3⟩ := Hn0.out.cells
      have z0 := Hn0.out.thawed 0
      have z1 := Hn0.out.thawed 1
      have z2 := Hn0.out.thawed 2
      have z3 := Hn0.out.thawed 3
      have hf : ChgAt ((((w1.setCell ⟨g, 0, none⟩ (.string ByteArray.empty)).setCell ⟨g, 1, none⟩ (.string ByteArray.empty)).setCell ⟨g, 2, none⟩ (.bool false)).setCell ⟨g, 3, none⟩ (.bool false)) g (ByteArray.empty) (ByteArray.empty) false false := (((Hn0.out.set (i := 0) (x := .string ByteArray.empty) (o' := ByteArray.empty) rfl).set (i := 1) (x := .string ByteArray.empty) (n' := ByteArray.empty) rfl).set (i := 2) (x := .bool false) (a' := false) rfl).set (i := 3) (x := .bool false) (b' := false) rfl
      have hb : Below g w ((((w1.setCell ⟨g, 0, none⟩ (.string ByteArray.empty)).setCell ⟨g, 1, none⟩ (.string ByteArray.empty)).setCell ⟨g, 2, none⟩ (.bool false)).setCell ⟨g, 3, none⟩ (.bool false)) := below_set (below_set (below_set (below_set Hb1.out (Nat.le_refl _)) (Nat.le_refl _)) (Nat.le_refl _)) (Nat.le_refl _)
      have Hf := Lib.hid hf; clear hf
      have Hb := Lib.hid hb; clear hb
      go_wp2_with fail
      change bodyPost _ _ _ _ _ ((((w1.setCell ⟨g, 0, none⟩ (.string ByteArray.empty)).setCell ⟨g, 1, none⟩ (.string ByteArray.empty)).setCell ⟨g, 2, none⟩ (.bool false)).setCell ⟨g, 3, none⟩ (.bool false))
      generalize ((((w1.setCell ⟨g, 0, none⟩ (.string ByteArray.empty)).setCell ⟨g, 1, none⟩ (.string ByteArray.empty)).setCell ⟨g, 2, none⟩ (.bool false)).setCell ⟨g, 3, none⟩ (.bool false)) = W4 at *
      clear d0 d1 d2 d3 e0 e1 e2 e3 z0 z1 z2 z3
      obtain ⟨e0, e1, e2, e3⟩ := Hf.out.cells
      refine bodyPost_ret (v := .agg (chgCells ByteArray.empty ByteArray.empty false false)) (by simp [results, Try.results117, go_sem, e0, e1, e2, e3, chgCells] <;> rfl) rfl ?_
      exact ⟨by rw [← HR.out]; rfl, Hb.out⟩
    | .node b' k' v' wt' l' r', HB, HPB, HloB, HR =>
      obtain rfl : PB = some ⟨b', 0, none⟩ := HPB.out.symm
      obtain ⟨c0, c1, c2, c3, c4, c5, c6⟩ := (show NodeAt w1 b' k' v' wt' l'.ptr r'.ptr _ _ from (HB.out.keep HloB.out Hb1.out.block).1).cells
      obtain ⟨d0, d1, d2, d3⟩ := hn1.cells
      have z0 := hn1.thawed 1
      have z2 := hn1.thawed 3
      clear c0 c2 c3 c4 c5 c6
      have hn5 : ChgAt ((w1.setCell ⟨g + 1, 1, none⟩ (.string v')).setCell ⟨g + 1, 3, none⟩ (.bool true)) (g + 1) (ByteArray.empty) v' false true := (hn1.set (i := 1) (x := .string v') (n' := v') rfl).set (i := 3) (x := .bool true) (b' := true) rfl
      have hn6 : ChgAt ((w1.setCell ⟨g + 1, 1, none⟩ (.string v')).setCell ⟨g + 1, 3, none⟩ (.bool true)) g ByteArray.empty ByteArray.empty false false := (Hn0.out.other (by omega)).other (by omega)
      have hb5 : Below g w ((w1.setCell ⟨g + 1, 1, none⟩ (.string v')).setCell ⟨g + 1, 3, none⟩ (.bool true)) := below_set (below_set Hb1.out (by omega)) (by omega)
      have Hn5 := Lib.hid hn5; clear hn5
      have Hn6 := Lib.hid hn6; clear hn6
      have Hb5 := Lib.hid hb5; clear hb5
      go_upto_region 6 with fail
      change Code.wp _ _ _ _ ((w1.setCell ⟨g + 1, 1, none⟩ (.string v')).setCell ⟨g + 1, 3, none⟩ (.bool true))
      generalize ((w1.setCell ⟨g + 1, 1, none⟩ (.string v')).setCell ⟨g + 1, 3, none⟩ (.bool true)) = w5 at *
      clear c1 z0 z2 d0 d1 d2 d3
      obtain ⟨e0, e1, e2, e3⟩ := Hn5.out.cells
      obtain ⟨d0, d1, d2, d3⟩ := Hn6.out.cells
      have z0 := Hn6.out.thawed 0
      have z1 := Hn6.out.thawed 1
      have z2 := Hn6.out.thawed 2
      have z3 := Hn6.out.thawed 3
      have hf : ChgAt ((((w5.setCell ⟨g, 0, none⟩ (.string ByteArray.empty)).setCell ⟨g, 1, none⟩ (.string v')).setCell ⟨g, 2, none⟩ (.bool false)).setCell ⟨g, 3, none⟩ (.bool true)) g (ByteArray.empty) (v') false true := (((Hn6.out.set (i := 0) (x := .string ByteArray.empty) (o' := ByteArray.empty) rfl).set (i := 1) (x := .string v') (n' := v') rfl).set (i := 2) (x := .bool false) (a' := false) rfl).set (i := 3) (x := .bool true) (b' := true) rfl
      have hb : Below g w ((((w5.setCell ⟨g, 0, none⟩ (.string ByteArray.empty)).setCell ⟨g, 1, none⟩ (.string v')).setCell ⟨g, 2, none⟩ (.bool false)).setCell ⟨g, 3, none⟩ (.bool true)) := below_set (below_set (below_set (below_set Hb5.out (Nat.le_refl _)) (Nat.le_refl _)) (Nat.le_refl _)) (Nat.le_refl _)
      have Hf := Lib.hid hf; clear hf
      have Hb := Lib.hid hb; clear hb
      go_wp2_with fail
      change bodyPost _ _ _ _ _ ((((w5.setCell ⟨g, 0, none⟩ (.string ByteArray.empty)).setCell ⟨g, 1, none⟩ (.string v')).setCell ⟨g, 2, none⟩ (.bool false)).setCell ⟨g, 3, none⟩ (.bool true))
      generalize ((((w5.setCell ⟨g, 0, none⟩ (.string ByteArray.empty)).setCell ⟨g, 1, none⟩ (.string v')).setCell ⟨g, 2, none⟩ (.bool false)).setCell ⟨g, 3, none⟩ (.bool true)) = W4 at *
      clear d0 d1 d2 d3 e0 e1 e2 e3 z0 z1 z2 z3
      obtain ⟨e0, e1, e2, e3⟩ := Hf.out.cells
      refine bodyPost_ret (v := .agg (chgCells ByteArray.empty v' false true)) (by simp [results, Try.results117, go_sem, e0, e1, e2, e3, chgCells] <;> rfl) rfl ?_
      exact ⟨by rw [← HR.out]; rfl, Hb.out⟩
  | .node b k v wt l r, HA, HPA, HloA, HR =>
    obtain rfl : PA = some ⟨b, 0, none⟩ := HPA.out.symm
    obtain ⟨c0, c1, c2, c3, c4, c5, c6⟩ := (show NodeAt w1 b k v wt l.ptr r.ptr _ _ from (HA.out.keep HloA.out Hb1.out.block).1).cells
    obtain ⟨d0, d1, d2, d3⟩ := hn1.cells
    have z0 := hn1.thawed 0
    have z2 := hn1.thawed 2
    clear c0 c2 c3 c4 c5 c6
    have hn2 : ChgAt ((w1.setCell ⟨g + 1, 0, none⟩ (.string v)).setCell ⟨g + 1, 2, none⟩ (.bool true)) (g + 1) v ByteArray.empty true false := (hn1.set (i := 0) (x := .string v) (o' := v) rfl).set (i := 2) (x := .bool true) (a' := true) rfl
    have hn3 : ChgAt ((w1.setCell ⟨g + 1, 0, none⟩ (.string v)).setCell ⟨g + 1, 2, none⟩ (.bool true)) g ByteArray.empty ByteArray.empty false false := (Hn0.out.other (by omega)).other (by omega)
    have hb2 : Below g w ((w1.setCell ⟨g + 1, 0, none⟩ (.string v)).setCell ⟨g + 1, 2, none⟩ (.bool true)) := below_set (below_set Hb1.out (by omega)) (by omega)
    have Hn2 := Lib.hid hn2; clear hn2
    have Hn3 := Lib.hid hn3; clear hn3
    have Hb2 := Lib.hid hb2; clear hb2
    clear hn1
    go_upto_region 4 with fail
    change Code.wp _ _ _ _ ((w1.setCell ⟨g + 1, 0, none⟩ (.string v)).setCell ⟨g + 1, 2, none⟩ (.bool true))
    generalize ((w1.setCell ⟨g + 1, 0, none⟩ (.string v)).setCell ⟨g + 1, 2, none⟩ (.bool true)) = w3 at *
    clear c1 z0 z2 d0 d1 d2 d3
    match B, HB, HPB, HloB, HR with
    | .nil, HB, HPB, HloB, HR =>
      obtain rfl : PB = none := HPB.out.symm
      obtain ⟨e0, e1, e2, e3⟩ := Hn2.out.cells
      obtain ⟨d0, d1, d2, d3⟩ := Hn3.out.cells
      have z0 := Hn3.out.thawed 0
      have z1 := Hn3.out.thawed 1
      have z2 := Hn3.out.thawed 2
      have z3 := Hn3.out.thawed 3
      have hf : ChgAt ((((w3.setCell ⟨g, 0, none⟩ (.string v)).setCell ⟨g, 1, none⟩ (.string ByteArray.empty)).setCell ⟨g, 2, none⟩ (.bool true)).setCell ⟨g, 3, none⟩ (.bool false)) g (v) (ByteArray.empty) true false := (((Hn3.out.set (i := 0) (x := .string v) (o' := v) rfl).set (i := 1) (x := .string ByteArray.empty) (n' := ByteArray.empty) rfl).set (i := 2) (x := .bool true) (a' := true) rfl).set (i := 3) (x := .bool false) (b' := false) rfl
      have hb : Below g w ((((w3.setCell ⟨g, 0, none⟩ (.string v)).setCell ⟨g, 1, none⟩ (.string ByteArray.empty)).setCell ⟨g, 2, none⟩ (.bool true)).setCell ⟨g, 3, none⟩ (.bool false)) := below_set (below_set (below_set (below_set Hb2.out (Nat.le_refl _)) (Nat.le_refl _)) (Nat.le_refl _)) (Nat.le_refl _)
      have Hf := Lib.hid hf; clear hf
      have Hb := Lib.hid hb; clear hb
      go_wp2_with fail
      change bodyPost _ _ _ _ _ ((((w3.setCell ⟨g, 0, none⟩ (.string v)).setCell ⟨g, 1, none⟩ (.string ByteArray.empty)).setCell ⟨g, 2, none⟩ (.bool true)).setCell ⟨g, 3, none⟩ (.bool false))
      generalize ((((w3.setCell ⟨g, 0, none⟩ (.string v)).setCell ⟨g, 1, none⟩ (.string ByteArray.empty)).setCell ⟨g, 2, none⟩ (.bool true)).setCell ⟨g, 3, none⟩ (.bool false)) = W4 at *
      clear d0 d1 d2 d3 e0 e1 e2 e3 z0 z1 z2 z3
      obtain ⟨e0, e1, e2, e3⟩ := Hf.out.cells
      refine bodyPost_ret (v := .agg (chgCells v ByteArray.empty true false)) (by simp [results, Try.results117, go_sem, e0, e1, e2, e3, chgCells] <;> rfl) rfl ?_
      exact ⟨by rw [← HR.out]; rfl, Hb.out⟩
    | .node b' k' v' wt' l' r', HB, HPB, HloB, HR =>
      obtain rfl : PB = some ⟨b', 0, none⟩ := HPB.out.symm
      obtain ⟨c0, c1, c2, c3, c4, c5, c6⟩ := (show NodeAt w3 b' k' v' wt' l'.ptr r'.ptr _ _ from (HB.out.keep HloB.out Hb2.out.block).1).cells
      obtain ⟨d0, d1, d2, d3⟩ := Hn2.out.cells
      have z0 := Hn2.out.thawed 1
      have z2 := Hn2.out.thawed 3
      clear c0 c2 c3 c4 c5 c6
      have hn5 : ChgAt ((w3.setCell ⟨g + 1, 1, none⟩ (.string v')).setCell ⟨g + 1, 3, none⟩ (.bool true)) (g + 1) (v) v' true true := (Hn2.out.set (i := 1) (x := .string v') (n' := v') rfl).set (i := 3) (x := .bool true) (b' := true) rfl
      have hn6 : ChgAt ((w3.setCell ⟨g + 1, 1, none⟩ (.string v')).setCell ⟨g + 1, 3, none⟩ (.bool true)) g ByteArray.empty ByteArray.empty false false := (Hn3.out.other (by omega)).other (by omega)
      have hb5 : Below g w ((w3.setCell ⟨g + 1, 1, none⟩ (.string v')).setCell ⟨g + 1, 3, none⟩ (.bool true)) := below_set (below_set Hb2.out (by omega)) (by omega)
      have Hn5 := Lib.hid hn5; clear hn5
      have Hn6 := Lib.hid hn6; clear hn6
      have Hb5 := Lib.hid hb5; clear hb5
      go_upto_region 6 with fail
      change Code.wp _ _ _ _ ((w3.setCell ⟨g + 1, 1, none⟩ (.string v')).setCell ⟨g + 1, 3, none⟩ (.bool true))
      generalize ((w3.setCell ⟨g + 1, 1, none⟩ (.string v')).setCell ⟨g + 1, 3, none⟩ (.bool true)) = w5 at *
      clear c1 z0 z2 d0 d1 d2 d3
      obtain ⟨e0, e1, e2, e3⟩ := Hn5.out.cells
      obtain ⟨d0, d1, d2, d3⟩ := Hn6.out.cells
      have z0 := Hn6.out.thawed 0
      have z1 := Hn6.out.thawed 1
      have z2 := Hn6.out.thawed 2
      have z3 := Hn6.out.thawed 3
      have hf : ChgAt ((((w5.setCell ⟨g, 0, none⟩ (.string v)).setCell ⟨g, 1, none⟩ (.string v')).setCell ⟨g, 2, none⟩ (.bool true)).setCell ⟨g, 3, none⟩ (.bool true)) g (v) (v') true true := (((Hn6.out.set (i := 0) (x := .string v) (o' := v) rfl).set (i := 1) (x := .string v') (n' := v') rfl).set (i := 2) (x := .bool true) (a' := true) rfl).set (i := 3) (x := .bool true) (b' := true) rfl
      have hb : Below g w ((((w5.setCell ⟨g, 0, none⟩ (.string v)).setCell ⟨g, 1, none⟩ (.string v')).setCell ⟨g, 2, none⟩ (.bool true)).setCell ⟨g, 3, none⟩ (.bool true)) := below_set (below_set (below_set (below_set Hb5.out (Nat.le_refl _)) (Nat.le_refl _)) (Nat.le_refl _)) (Nat.le_refl _)
      have Hf := Lib.hid hf; clear hf
      have Hb := Lib.hid hb; clear hb
      go_wp2_with fail
      change bodyPost _ _ _ _ _ ((((w5.setCell ⟨g, 0, none⟩ (.string v)).setCell ⟨g, 1, none⟩ (.string v')).setCell ⟨g, 2, none⟩ (.bool true)).setCell ⟨g, 3, none⟩ (.bool true))
      generalize ((((w5.setCell ⟨g, 0, none⟩ (.string v)).setCell ⟨g, 1, none⟩ (.string v')).setCell ⟨g, 2, none⟩ (.bool true)).setCell ⟨g, 3, none⟩ (.bool true)) = W4 at *
      clear d0 d1 d2 d3 e0 e1 e2 e3 z0 z1 z2 z3
      obtain ⟨e0, e1, e2, e3⟩ := Hf.out.cells
      refine bodyPost_ret (v := .agg (chgCells v v' true true)) (by simp [results, Try.results117, go_sem, e0, e1, e2, e3, chgCells] <;> rfl) rfl ?_
      exact ⟨by rw [← HR.out]; rfl, Hb.out⟩
end Go.Proofs.Ytkngadbeflepoaa
