/- Plain laws on what differs between two lists of pairs in order. No condition. -/
import Derived.Test.YtbckjgageofldaaGreatZLearnNil13
import Derived.Test.YtbckjgageofldaaGreatZLearnNil18
namespace Go.Proofs.YtbckjgageofldaaGreat
open Go.RowKit
structure Chg where
 key : ByteArray
 old : ByteArray
 new : ByteArray
 had : Bool
 has : Bool
def cDel (p : ByteArray × ByteArray) : Chg := ⟨p.1, p.2, ByteArray.empty, true, false⟩
def cAdd (q : ByteArray × ByteArray) : Chg := ⟨q.1, ByteArray.empty, q.2, false, true⟩
def diffL : Prs → Prs → List Chg
 | [], [] => []
 | p :: A, [] => cDel p :: diffL A []
 | [], q :: B => cAdd q :: diffL [] B
 | p :: A, q :: B => if slt p.1 q.1 = true then cDel p :: diffL A (q :: B) else if slt q.1 p.1 = true then cAdd q :: diffL (p :: A) B else if p.2 = q.2 then diffL A B else ⟨p.1, p.2, q.2, true, true⟩ :: diffL A B
termination_by A B => A.length + B.length
theorem diff_nil_nil : diffL [] [] = [] := by rw [diffL]
theorem diff_cons_nil (p : ByteArray × ByteArray) (A : Prs) : diffL (p :: A) [] = cDel p :: diffL A [] := by rw [diffL]
theorem diff_nil_cons (q : ByteArray × ByteArray) (B : Prs) : diffL [] (q :: B) = cAdd q :: diffL [] B := by rw [diffL]
theorem diff_cons_cons (p q : ByteArray × ByteArray) (A B : Prs) : diffL (p :: A) (q :: B) = if slt p.1 q.1 = true then cDel p :: diffL A (q :: B) else if slt q.1 p.1 = true then cAdd q :: diffL (p :: A) B else if p.2 = q.2 then diffL A B else ⟨p.1, p.2, q.2, true, true⟩ :: diffL A B := by rw [diffL]
theorem diff_del {p : ByteArray × ByteArray} {A B : Prs} (h : ∀ q ∈ B, slt p.1 q.1 = true) : diffL (p :: A) B = cDel p :: diffL A B := by
 cases B with
 | nil => rw [diff_cons_nil]
 | cons q B => rw [diff_cons_cons, if_pos (h q (by simp))]
theorem diff_add {q : ByteArray × ByteArray} {A B : Prs} (h : ∀ p ∈ A, slt q.1 p.1 = true) : diffL A (q :: B) = cAdd q :: diffL A B := by
 cases A with
 | nil => rw [diff_nil_cons]
 | cons p A =>
  have h1 := h p (by simp)
  rw [diff_cons_cons, if_neg (by rw [slt_asymm h1]; exact Bool.false_ne_true), if_pos h1]
theorem diff_append : ∀ (n : Nat) {A1 B1 A2 B2 : Prs}, A1.length + B1.length ≤ n → (∀ p ∈ A1 ++ B1, ∀ q ∈ A2 ++ B2, slt p.1 q.1 = true) → diffL (A1 ++ A2) (B1 ++ B2) = diffL A1 B1 ++ diffL A2 B2
 | n, [], [], _, _, _, _ => by rw [diff_nil_nil]; rfl
 | 0, p :: A1, _, _, _, h, _ => by simp at h
 | 0, [], q :: B1, _, _, h, _ => by simp at h
 | n + 1, p :: A1, [], A2, B2, h, hs => by
  have ih := diff_append n (A1 := A1) (B1 := []) (A2 := A2) (B2 := B2) (by simpa using h) (fun x hx y hy => hs x (by simp at hx ⊢; exact .inr hx) y hy)
  show diffL (p :: (A1 ++ A2)) B2 = _
  rw [diff_del (fun q hq => hs p (by simp) q (by simp [hq])), diff_cons_nil, List.cons_append, ← ih]
  rfl
 | n + 1, [], q :: B1, A2, B2, h, hs => by
  have ih := diff_append n (A1 := []) (B1 := B1) (A2 := A2) (B2 := B2) (by simpa using h) (fun x hx y hy => hs x (by simp at hx ⊢; exact .inr hx) y hy)
  show diffL A2 (q :: (B1 ++ B2)) = _
  rw [diff_add (fun p hp => hs q (by simp) p (by simp [hp])), diff_nil_cons, List.cons_append, ← ih]
  rfl
 | n + 1, p :: A1, q :: B1, A2, B2, h, hs => by
  simp only [List.length_cons] at h
  show diffL (p :: (A1 ++ A2)) (q :: (B1 ++ B2)) = _
  rw [diff_cons_cons, diff_cons_cons]
  split
  ·
   have ih := diff_append n (A1 := A1) (B1 := q :: B1) (A2 := A2) (B2 := B2) (by simp; omega) (fun x hx y hy => hs x (by simp at hx ⊢; exact .inr hx) y hy)
   rw [List.cons_append, ← ih]; rfl
  split
  ·
   have ih := diff_append n (A1 := p :: A1) (B1 := B1) (A2 := A2) (B2 := B2) (by simp; omega) (fun x hx y hy => hs x (by simp at hx ⊢; rcases hx with h | h | h <;> simp [h]) y hy)
   rw [List.cons_append, ← ih]; rfl
  have ih := diff_append n (A1 := A1) (B1 := B1) (A2 := A2) (B2 := B2) (by omega) (fun x hx y hy => hs x (by simp at hx ⊢; rcases hx with h | h <;> simp [h]) y hy)
  split
  ·
   exact ih
  ·
   rw [List.cons_append, ← ih]
theorem diff_self : ∀ A : Prs, diffL A A = []
 | [] => diff_nil_nil
 | p :: A => by rw [diff_cons_cons, if_neg (by rw [slt_irrefl]; exact Bool.false_ne_true), if_neg (by rw [slt_irrefl]; exact Bool.false_ne_true), if_pos rfl, diff_self A]
def atK (k : ByteArray) : Option ByteArray → Prs
 | some v => [(k, v)]
 | none => []
theorem asc_three (k : ByteArray) : ∀ {S : Sh}, Asc S.kv → S.kv = S.kv.filter (ltB k) ++ (atK k (S.look k) ++ S.kv.filter (gtB k))
 | .nil, _ => rfl
 | .node k0 v0 wt l r, h => by
  have h' : Asc (l.kv ++ (k0, v0) :: r.kv) := h
  obtain ⟨hl, hr, _, _⟩ := asc_node h'
  unfold Sh.look
  simp only [Sh.kv]
  by_cases e : k0 = k
  ·
   subst e
   obtain ⟨f1, f2⟩ := filt_eq h'
   rw [if_pos rfl, f1, f2]
   rfl
  ·
   rw [if_neg e]
   by_cases hk : slt k k0 = true
   ·
    obtain ⟨f1, f2⟩ := filt_lt h' hk
    have ih := asc_three k hl
    rw [if_pos hk, f1, f2]
    conv => lhs; rw [ih]
    simp
   ·
    have hk' : slt k0 k = true := by
     rw [← Bool.not_eq_false]
     intro h2
     exact e (slt_total h2 (by simpa using hk))
    obtain ⟨f1, f2⟩ := filt_gt h' hk'
    have ih := asc_three k hr
    rw [if_neg hk, f1, f2]
    conv => lhs; rw [ih]
    simp
def chgOf (k : ByteArray) (a b : Option ByteArray) : Chg := ⟨k, a.getD ByteArray.empty, b.getD ByteArray.empty, a.isSome, b.isSome⟩
def Chg.real (c : Chg) : Bool := decide (c.had ≠ c.has) || decide (c.old ≠ c.new)
theorem diff_mid (k : ByteArray) (a b : Option ByteArray) : diffL (atK k a) (atK k b) = if (chgOf k a b).real = true then [chgOf k a b] else [] := by
 cases a with
 | none =>
  cases b with
  | none => simp [atK, diff_nil_nil, chgOf, Chg.real]
  | some v => simp [atK, diff_nil_cons, diff_nil_nil, chgOf, Chg.real, cAdd]
 | some v =>
  cases b with
  | none => simp [atK, diff_cons_nil, diff_nil_nil, chgOf, Chg.real, cDel]
  | some u =>
   simp only [atK]
   rw [diff_cons_cons, if_neg (by rw [slt_irrefl]; exact Bool.false_ne_true), if_neg (by rw [slt_irrefl]; exact Bool.false_ne_true), diff_nil_nil]
   by_cases e : v = u
   ·
    subst e; simp [chgOf, Chg.real]
   ·
    simp [chgOf, Chg.real, e]
theorem mem_atK {k : ByteArray} {o : Option ByteArray} {p : ByteArray × ByteArray} (h : p ∈ atK k o) : p.1 = k := by
 cases o <;> simp [atK] at h
 rw [h]
theorem diff_three (k : ByteArray) {S U : Sh} (hS : Asc S.kv) (hU : Asc U.kv) :
  diffL S.kv U.kv = diffL (S.kv.filter (ltB k)) (U.kv.filter (ltB k)) ++ ((if (chgOf k (S.look k) (U.look k)).real = true then [chgOf k (S.look k) (U.look k)] else []) ++ diffL (S.kv.filter (gtB k)) (U.kv.filter (gtB k))) := by
 have e1 := asc_three k hS
 have e2 := asc_three k hU
 have lo : ∀ (L : Prs), ∀ p ∈ L.filter (ltB k), slt p.1 k = true := fun L p hp => (List.mem_filter.1 hp).2
 have hi : ∀ (L : Prs), ∀ p ∈ L.filter (gtB k), slt k p.1 = true := fun L p hp => (List.mem_filter.1 hp).2
 conv => lhs; rw [e1, e2]
 rw [diff_append _ (Nat.le_refl _), diff_append _ (Nat.le_refl _), diff_mid]
 ·
  intro p hp q hq
  have h1 : p.1 = k := by
   rcases List.mem_append.1 hp with h | h <;> exact mem_atK h
  rw [h1]
  rcases List.mem_append.1 hq with h | h <;> exact hi _ q h
 ·
  intro p hp q hq
  have h1 : slt p.1 k = true := by
   rcases List.mem_append.1 hp with h | h <;> exact lo _ p h
  have h2 : q.1 = k ∨ slt k q.1 = true := by
   rcases List.mem_append.1 hq with h | h <;> rcases List.mem_append.1 h with h | h
   ·
    exact .inl (mem_atK h)
   ·
    exact .inr (hi _ q h)
   ·
    exact .inl (mem_atK h)
   ·
    exact .inr (hi _ q h)
  rcases h2 with h2 | h2
  ·
   rw [h2]; exact h1
  ·
   exact slt_trans h1 h2
theorem diff_len : ∀ (n : Nat) {A B : Prs}, A.length + B.length ≤ n → (diffL A B).length ≤ A.length + B.length
 | n, [], [], _ => by rw [diff_nil_nil]; simp
 | 0, p :: A, _, h => by simp at h
 | 0, [], q :: B, h => by simp at h
 | n + 1, p :: A, [], h => by
  have := diff_len n (A := A) (B := []) (by simpa using h)
  rw [diff_cons_nil]
  simp at this ⊢
  omega
 | n + 1, [], q :: B, h => by
  have := diff_len n (A := []) (B := B) (by simpa using h)
  rw [diff_nil_cons]
  simp at this ⊢
  omega
 | n + 1, p :: A, q :: B, h => by
  simp only [List.length_cons] at h
  have h1 := diff_len n (A := A) (B := q :: B) (by simp; omega)
  have h2 := diff_len n (A := p :: A) (B := B) (by simp; omega)
  have h3 := diff_len n (A := A) (B := B) (by omega)
  rw [diff_cons_cons]
  simp only [List.length_cons] at h1 h2 h3 ⊢
  split
  ·
   simp only [List.length_cons]; omega
  split
  ·
   simp only [List.length_cons]; omega
  split
  ·
   omega
  ·
   simp only [List.length_cons]; omega
end Go.Proofs.YtbckjgageofldaaGreat
namespace Go.Proofs.YtbckjgageofldaaGreat
open Go.RowKit Go.Shelf
def chgCells (o n : ByteArray) (a b : Bool) : Array Value := #[.string o, .string n, .bool a, .bool b]
def ChgAt (w : World) (g : Nat) (o n : ByteArray) (a b : Bool) : Prop := w.heap[g]? = some (.cells (chgCells o n a b) 271 (0, 0))
section
variable {w w' : World} {g i : Nat} {o n o' n' : ByteArray} {a b a' b' : Bool} {x : Value}
theorem ChgAt.cells (h : ChgAt w g o n a b) : w.cell? ⟨g, 0, none⟩ = some (.string o) ∧ w.cell? ⟨g, 1, none⟩ = some (.string n) ∧ w.cell? ⟨g, 2, none⟩ = some (.bool a) ∧ w.cell? ⟨g, 3, none⟩ = some (.bool b) :=
 ⟨cell_of_row _ _ _ _ _ _ h, cell_of_row _ _ _ _ _ _ h, cell_of_row _ _ _ _ _ _ h, cell_of_row _ _ _ _ _ _ h⟩
theorem ChgAt.thawed (h : ChgAt w g o n a b) (j : Nat) : w.frozen? ⟨g, j, none⟩ = false := by
 unfold ChgAt at h
 simp [World.frozen?, h]
theorem ChgAt.lt (h : ChgAt w g o n a b) : g < w.heap.size := (Array.getElem?_eq_some_iff.1 h).1
theorem ChgAt.below (h : ChgAt w g o n a b) (hb : Below w.heap.size w w') : ChgAt w' g o n a b := (hb.block g h.lt).trans h
theorem ChgAt.set (h : ChgAt w g o n a b) (hx : (chgCells o n a b).setIfInBounds i x = chgCells o' n' a' b') : ChgAt (w.setCell ⟨g, i, none⟩ x) g o' n' a' b' := by
 unfold ChgAt
 rw [heap_setCell_same _ _ _ _ _ _ h, hx]
theorem ChgAt.other {g' : Nat} (h : ChgAt w g o n a b) (hne : g ≠ g') : ChgAt (w.setCell ⟨g', i, none⟩ x) g o n a b := (Below.heap_setCell _ _ _ _ (by exact hne)).trans h
end
set_option maxRecDepth 100000 in
set_option maxHeartbeats 2000000 in
theorem change_any (A B : Tr) (w : World) (hA : TreeAt w A) (hB : TreeAt w B) :
  Calls Tryz.prog 191 #[.pointer A.ptr, .pointer B.ptr] w fun e w' => e = .returned (.agg (chgCells (A.val.getD ByteArray.empty) (B.val.getD ByteArray.empty) A.val.isSome B.val.isSome)) ∧ Below w.heap.size w w' := by
 obtain ⟨R, hR⟩ : ∃ R, chgCells (A.val.getD ByteArray.empty) (B.val.getD ByteArray.empty) A.val.isSome B.val.isSome = R := ⟨_, rfl⟩
 rw [hR]
 have HR := Lib.hid hR; clear hR
 have hloA := hA.lo
 have hloB := hB.lo
 obtain ⟨g, hg⟩ : ∃ g, w.heap.size = g := ⟨_, rfl⟩
 rw [hg] at hloA hloB ⊢
 have HA := Lib.hid hA; clear hA
 have HB := Lib.hid hB; clear hB
 obtain ⟨PA, hPA⟩ : ∃ P, A.ptr = P := ⟨_, rfl⟩
 obtain ⟨PB, hPB⟩ : ∃ P, B.ptr = P := ⟨_, rfl⟩
 rw [hPA, hPB]
 go_enter Tryz.func191, Tryz.ntmps191
 go_upto_region 2 with fail
 have hb1 : Below g w ((w.alloc (.cells (chgCells ByteArray.empty ByteArray.empty false false) 271)).alloc (.cells (chgCells ByteArray.empty ByteArray.empty false false) 271)) := by
  rw [← hg]
  exact ((Below.refl _ _).alloc (Nat.le_refl _) _).alloc (by simp) _
 have hs1 : (w.alloc (.cells (chgCells ByteArray.empty ByteArray.empty false false) 271)).heap.size = g + 1 := by simp [hg]
 have hn1 : ChgAt ((w.alloc (.cells (chgCells ByteArray.empty ByteArray.empty false false) 271)).alloc (.cells (chgCells ByteArray.empty ByteArray.empty false false) 271)) (g + 1) ByteArray.empty ByteArray.empty false false := by
  have := heap_alloc_new (w.alloc (.cells (chgCells ByteArray.empty ByteArray.empty false false) 271)) (.cells (chgCells ByteArray.empty ByteArray.empty false false) 271)
  rwa [hs1] at this
 have hn0 : ChgAt ((w.alloc (.cells (chgCells ByteArray.empty ByteArray.empty false false) 271)).alloc (.cells (chgCells ByteArray.empty ByteArray.empty false false) 271)) g ByteArray.empty ByteArray.empty false false := by
  have := heap_alloc_new w (.cells (chgCells ByteArray.empty ByteArray.empty false false) 271)
  rw [hg] at this
  exact (Below.heap_alloc _ _ _ (by omega)).trans this
 change Code.wp _ _ _ _ ((w.alloc (.cells (chgCells ByteArray.empty ByteArray.empty false false) 271)).alloc (.cells (chgCells ByteArray.empty ByteArray.empty false false) 271))
 generalize (w.alloc (.cells (chgCells ByteArray.empty ByteArray.empty false false) 271)).alloc (.cells (chgCells ByteArray.empty ByteArray.empty false false) 271) = w1 at *
 clear hs1
 have Hn0 := Lib.hid hn0; clear hn0
 have Hb1 := Lib.hid hb1; clear hb1
 have HloA := Lib.hid hloA; clear hloA
 have HloB := Lib.hid hloB; clear hloB
 have Hg := Lib.hid hg; clear hg
 have HPA := Lib.hid hPA; clear hPA
 have HPB := Lib.hid hPB; clear hPB
 match A, HA, HPA, HloA, HR with
 | .nil, HA, HPA, HloA, HR =>
  obtain rfl : PA = none := HPA.out.symm
  go_upto_region 4 with fail
  match B, HB, HPB, HloB, HR with
  | .nil, HB, HPB, HloB, HR =>
   obtain rfl : PB = none := HPB.out.symm
   obtain ⟨e0, e1, e2, e3⟩ := hn1.cells
   obtain ⟨d0, d1, d2, d3⟩ := Hn0.out.cells
   have z0 := Hn0.out.thawed 0
   have z1 := Hn0.out.thawed 1
   have z2 := Hn0.out.thawed 2
   have z3 := Hn0.out.thawed 3
   have hf : ChgAt ((((w1.setCell ⟨g, 0, none⟩ (.string ByteArray.empty)).setCell ⟨g, 1, none⟩ (.string ByteArray.empty)).setCell ⟨g, 2, none⟩ (.bool false)).setCell ⟨g, 3, none⟩ (.bool false)) g (ByteArray.empty) (ByteArray.empty) false false := (((Hn0.out.set (i := 0) (x := .string ByteArray.empty) (o' := ByteArray.empty) rfl).set (i := 1) (x := .string ByteArray.empty) (n' := ByteArray.empty) rfl).set (i := 2) (x := .bool false) (a' := false) rfl).set (i := 3) (x := .bool false) (b' := false) rfl
   have hb : Below g w ((((w1.setCell ⟨g, 0, none⟩ (.string ByteArray.empty)).setCell ⟨g, 1, none⟩ (.string ByteArray.empty)).setCell ⟨g, 2, none⟩ (.bool false)).setCell ⟨g, 3, none⟩ (.bool false)) := below_set (below_set (below_set (below_set Hb1.out (Nat.le_refl _)) (Nat.le_refl _)) (Nat.le_refl _)) (Nat.le_refl _)
   have Hf := Lib.hid hf; clear hf
   have Hb := Lib.hid hb; clear hb
   go_wp2_with fail
   change bodyPost _ _ _ _ _ ((((w1.setCell ⟨g, 0, none⟩ (.string ByteArray.empty)).setCell ⟨g, 1, none⟩ (.string ByteArray.empty)).setCell ⟨g, 2, none⟩ (.bool false)).setCell ⟨g, 3, none⟩ (.bool false))
   generalize ((((w1.setCell ⟨g, 0, none⟩ (.string ByteArray.empty)).setCell ⟨g, 1, none⟩ (.string ByteArray.empty)).setCell ⟨g, 2, none⟩ (.bool false)).setCell ⟨g, 3, none⟩ (.bool false)) = W4 at *
   clear d0 d1 d2 d3 e0 e1 e2 e3 z0 z1 z2 z3
   obtain ⟨e0, e1, e2, e3⟩ := Hf.out.cells
   refine bodyPost_ret (v := .agg (chgCells ByteArray.empty ByteArray.empty false false)) (by simp [results, Tryz.results191, go_sem, e0, e1, e2, e3, chgCells] <;> rfl) rfl ?_
   exact ⟨by rw [← HR.out]; rfl, Hb.out⟩
  | .node b' k' v' wt' l' r', HB, HPB, HloB, HR =>
   obtain rfl : PB = some ⟨b', 0, none⟩ := HPB.out.symm
   obtain ⟨c0, c1, c2, c3, c4, c5, c6⟩ := (show NodeAt w1 b' k' v' wt' l'.ptr r'.ptr _ _ from (HB.out.keep HloB.out Hb1.out.block).1).cells
   obtain ⟨d0, d1, d2, d3⟩ := hn1.cells
   have z0 := hn1.thawed 1
   have z2 := hn1.thawed 3
   clear c0 c2 c3 c4 c5 c6
   have hn5 : ChgAt ((w1.setCell ⟨g + 1, 1, none⟩ (.string v')).setCell ⟨g + 1, 3, none⟩ (.bool true)) (g + 1) (ByteArray.empty) v' false true := (hn1.set (i := 1) (x := .string v') (n' := v') rfl).set (i := 3) (x := .bool true) (b' := true) rfl
   have hn6 : ChgAt ((w1.setCell ⟨g + 1, 1, none⟩ (.string v')).setCell ⟨g + 1, 3, none⟩ (.bool true)) g ByteArray.empty ByteArray.empty false false := (Hn0.out.other (by omega)).other (by omega)
   have hb5 : Below g w ((w1.setCell ⟨g + 1, 1, none⟩ (.string v')).setCell ⟨g + 1, 3, none⟩ (.bool true)) := below_set (below_set Hb1.out (by omega)) (by omega)
   have Hn5 := Lib.hid hn5; clear hn5
   have Hn6 := Lib.hid hn6; clear hn6
   have Hb5 := Lib.hid hb5; clear hb5
   go_upto_region 6 with fail
   change Code.wp _ _ _ _ ((w1.setCell ⟨g + 1, 1, none⟩ (.string v')).setCell ⟨g + 1, 3, none⟩ (.bool true))
   generalize ((w1.setCell ⟨g + 1, 1, none⟩ (.string v')).setCell ⟨g + 1, 3, none⟩ (.bool true)) = w5 at *
   clear c1 z0 z2 d0 d1 d2 d3
   obtain ⟨e0, e1, e2, e3⟩ := Hn5.out.cells
   obtain ⟨d0, d1, d2, d3⟩ := Hn6.out.cells
   have z0 := Hn6.out.thawed 0
   have z1 := Hn6.out.thawed 1
   have z2 := Hn6.out.thawed 2
   have z3 := Hn6.out.thawed 3
   have hf : ChgAt ((((w5.setCell ⟨g, 0, none⟩ (.string ByteArray.empty)).setCell ⟨g, 1, none⟩ (.string v')).setCell ⟨g, 2, none⟩ (.bool false)).setCell ⟨g, 3, none⟩ (.bool true)) g (ByteArray.empty) (v') false true := (((Hn6.out.set (i := 0) (x := .string ByteArray.empty) (o' := ByteArray.empty) rfl).set (i := 1) (x := .string v') (n' := v') rfl).set (i := 2) (x := .bool false) (a' := false) rfl).set (i := 3) (x := .bool true) (b' := true) rfl
   have hb : Below g w ((((w5.setCell ⟨g, 0, none⟩ (.string ByteArray.empty)).setCell ⟨g, 1, none⟩ (.string v')).setCell ⟨g, 2, none⟩ (.bool false)).setCell ⟨g, 3, none⟩ (.bool true)) := below_set (below_set (below_set (below_set Hb5.out (Nat.le_refl _)) (Nat.le_refl _)) (Nat.le_refl _)) (Nat.le_refl _)
   have Hf := Lib.hid hf; clear hf
   have Hb := Lib.hid hb; clear hb
   go_wp2_with fail
   change bodyPost _ _ _ _ _ ((((w5.setCell ⟨g, 0, none⟩ (.string ByteArray.empty)).setCell ⟨g, 1, none⟩ (.string v')).setCell ⟨g, 2, none⟩ (.bool false)).setCell ⟨g, 3, none⟩ (.bool true))
   generalize ((((w5.setCell ⟨g, 0, none⟩ (.string ByteArray.empty)).setCell ⟨g, 1, none⟩ (.string v')).setCell ⟨g, 2, none⟩ (.bool false)).setCell ⟨g, 3, none⟩ (.bool true)) = W4 at *
   clear d0 d1 d2 d3 e0 e1 e2 e3 z0 z1 z2 z3
   obtain ⟨e0, e1, e2, e3⟩ := Hf.out.cells
   refine bodyPost_ret (v := .agg (chgCells ByteArray.empty v' false true)) (by simp [results, Tryz.results191, go_sem, e0, e1, e2, e3, chgCells] <;> rfl) rfl ?_
   exact ⟨by rw [← HR.out]; rfl, Hb.out⟩
 | .node b k v wt l r, HA, HPA, HloA, HR =>
  obtain rfl : PA = some ⟨b, 0, none⟩ := HPA.out.symm
  obtain ⟨c0, c1, c2, c3, c4, c5, c6⟩ := (show NodeAt w1 b k v wt l.ptr r.ptr _ _ from (HA.out.keep HloA.out Hb1.out.block).1).cells
  obtain ⟨d0, d1, d2, d3⟩ := hn1.cells
  have z0 := hn1.thawed 0
  have z2 := hn1.thawed 2
  clear c0 c2 c3 c4 c5 c6
  have hn2 : ChgAt ((w1.setCell ⟨g + 1, 0, none⟩ (.string v)).setCell ⟨g + 1, 2, none⟩ (.bool true)) (g + 1) v ByteArray.empty true false := (hn1.set (i := 0) (x := .string v) (o' := v) rfl).set (i := 2) (x := .bool true) (a' := true) rfl
  have hn3 : ChgAt ((w1.setCell ⟨g + 1, 0, none⟩ (.string v)).setCell ⟨g + 1, 2, none⟩ (.bool true)) g ByteArray.empty ByteArray.empty false false := (Hn0.out.other (by omega)).other (by omega)
  have hb2 : Below g w ((w1.setCell ⟨g + 1, 0, none⟩ (.string v)).setCell ⟨g + 1, 2, none⟩ (.bool true)) := below_set (below_set Hb1.out (by omega)) (by omega)
  have Hn2 := Lib.hid hn2; clear hn2
  have Hn3 := Lib.hid hn3; clear hn3
  have Hb2 := Lib.hid hb2; clear hb2
  clear hn1
  go_upto_region 4 with fail
  change Code.wp _ _ _ _ ((w1.setCell ⟨g + 1, 0, none⟩ (.string v)).setCell ⟨g + 1, 2, none⟩ (.bool true))
  generalize ((w1.setCell ⟨g + 1, 0, none⟩ (.string v)).setCell ⟨g + 1, 2, none⟩ (.bool true)) = w3 at *
  clear c1 z0 z2 d0 d1 d2 d3
  match B, HB, HPB, HloB, HR with
  | .nil, HB, HPB, HloB, HR =>
   obtain rfl : PB = none := HPB.out.symm
   obtain ⟨e0, e1, e2, e3⟩ := Hn2.out.cells
   obtain ⟨d0, d1, d2, d3⟩ := Hn3.out.cells
   have z0 := Hn3.out.thawed 0
   have z1 := Hn3.out.thawed 1
   have z2 := Hn3.out.thawed 2
   have z3 := Hn3.out.thawed 3
   have hf : ChgAt ((((w3.setCell ⟨g, 0, none⟩ (.string v)).setCell ⟨g, 1, none⟩ (.string ByteArray.empty)).setCell ⟨g, 2, none⟩ (.bool true)).setCell ⟨g, 3, none⟩ (.bool false)) g (v) (ByteArray.empty) true false := (((Hn3.out.set (i := 0) (x := .string v) (o' := v) rfl).set (i := 1) (x := .string ByteArray.empty) (n' := ByteArray.empty) rfl).set (i := 2) (x := .bool true) (a' := true) rfl).set (i := 3) (x := .bool false) (b' := false) rfl
   have hb : Below g w ((((w3.setCell ⟨g, 0, none⟩ (.string v)).setCell ⟨g, 1, none⟩ (.string ByteArray.empty)).setCell ⟨g, 2, none⟩ (.bool true)).setCell ⟨g, 3, none⟩ (.bool false)) := below_set (below_set (below_set (below_set Hb2.out (Nat.le_refl _)) (Nat.le_refl _)) (Nat.le_refl _)) (Nat.le_refl _)
   have Hf := Lib.hid hf; clear hf
   have Hb := Lib.hid hb; clear hb
   go_wp2_with fail
   change bodyPost _ _ _ _ _ ((((w3.setCell ⟨g, 0, none⟩ (.string v)).setCell ⟨g, 1, none⟩ (.string ByteArray.empty)).setCell ⟨g, 2, none⟩ (.bool true)).setCell ⟨g, 3, none⟩ (.bool false))
   generalize ((((w3.setCell ⟨g, 0, none⟩ (.string v)).setCell ⟨g, 1, none⟩ (.string ByteArray.empty)).setCell ⟨g, 2, none⟩ (.bool true)).setCell ⟨g, 3, none⟩ (.bool false)) = W4 at *
   clear d0 d1 d2 d3 e0 e1 e2 e3 z0 z1 z2 z3
   obtain ⟨e0, e1, e2, e3⟩ := Hf.out.cells
   refine bodyPost_ret (v := .agg (chgCells v ByteArray.empty true false)) (by simp [results, Tryz.results191, go_sem, e0, e1, e2, e3, chgCells] <;> rfl) rfl ?_
   exact ⟨by rw [← HR.out]; rfl, Hb.out⟩
  | .node b' k' v' wt' l' r', HB, HPB, HloB, HR =>
   obtain rfl : PB = some ⟨b', 0, none⟩ := HPB.out.symm
   obtain ⟨c0, c1, c2, c3, c4, c5, c6⟩ := (show NodeAt w3 b' k' v' wt' l'.ptr r'.ptr _ _ from (HB.out.keep HloB.out Hb2.out.block).1).cells
   obtain ⟨d0, d1, d2, d3⟩ := Hn2.out.cells
   have z0 := Hn2.out.thawed 1
   have z2 := Hn2.out.thawed 3
   clear c0 c2 c3 c4 c5 c6
   have hn5 : ChgAt ((w3.setCell ⟨g + 1, 1, none⟩ (.string v')).setCell ⟨g + 1, 3, none⟩ (.bool true)) (g + 1) (v) v' true true := (Hn2.out.set (i := 1) (x := .string v') (n' := v') rfl).set (i := 3) (x := .bool true) (b' := true) rfl
   have hn6 : ChgAt ((w3.setCell ⟨g + 1, 1, none⟩ (.string v')).setCell ⟨g + 1, 3, none⟩ (.bool true)) g ByteArray.empty ByteArray.empty false false := (Hn3.out.other (by omega)).other (by omega)
   have hb5 : Below g w ((w3.setCell ⟨g + 1, 1, none⟩ (.string v')).setCell ⟨g + 1, 3, none⟩ (.bool true)) := below_set (below_set Hb2.out (by omega)) (by omega)
   have Hn5 := Lib.hid hn5; clear hn5
   have Hn6 := Lib.hid hn6; clear hn6
   have Hb5 := Lib.hid hb5; clear hb5
   go_upto_region 6 with fail
   change Code.wp _ _ _ _ ((w3.setCell ⟨g + 1, 1, none⟩ (.string v')).setCell ⟨g + 1, 3, none⟩ (.bool true))
   generalize ((w3.setCell ⟨g + 1, 1, none⟩ (.string v')).setCell ⟨g + 1, 3, none⟩ (.bool true)) = w5 at *
   clear c1 z0 z2 d0 d1 d2 d3
   obtain ⟨e0, e1, e2, e3⟩ := Hn5.out.cells
   obtain ⟨d0, d1, d2, d3⟩ := Hn6.out.cells
   have z0 := Hn6.out.thawed 0
   have z1 := Hn6.out.thawed 1
   have z2 := Hn6.out.thawed 2
   have z3 := Hn6.out.thawed 3
   have hf : ChgAt ((((w5.setCell ⟨g, 0, none⟩ (.string v)).setCell ⟨g, 1, none⟩ (.string v')).setCell ⟨g, 2, none⟩ (.bool true)).setCell ⟨g, 3, none⟩ (.bool true)) g (v) (v') true true := (((Hn6.out.set (i := 0) (x := .string v) (o' := v) rfl).set (i := 1) (x := .string v') (n' := v') rfl).set (i := 2) (x := .bool true) (a' := true) rfl).set (i := 3) (x := .bool true) (b' := true) rfl
   have hb : Below g w ((((w5.setCell ⟨g, 0, none⟩ (.string v)).setCell ⟨g, 1, none⟩ (.string v')).setCell ⟨g, 2, none⟩ (.bool true)).setCell ⟨g, 3, none⟩ (.bool true)) := below_set (below_set (below_set (below_set Hb5.out (Nat.le_refl _)) (Nat.le_refl _)) (Nat.le_refl _)) (Nat.le_refl _)
   have Hf := Lib.hid hf; clear hf
   have Hb := Lib.hid hb; clear hb
   go_wp2_with fail
   change bodyPost _ _ _ _ _ ((((w5.setCell ⟨g, 0, none⟩ (.string v)).setCell ⟨g, 1, none⟩ (.string v')).setCell ⟨g, 2, none⟩ (.bool true)).setCell ⟨g, 3, none⟩ (.bool true))
   generalize ((((w5.setCell ⟨g, 0, none⟩ (.string v)).setCell ⟨g, 1, none⟩ (.string v')).setCell ⟨g, 2, none⟩ (.bool true)).setCell ⟨g, 3, none⟩ (.bool true)) = W4 at *
   clear d0 d1 d2 d3 e0 e1 e2 e3 z0 z1 z2 z3
   obtain ⟨e0, e1, e2, e3⟩ := Hf.out.cells
   refine bodyPost_ret (v := .agg (chgCells v v' true true)) (by simp [results, Tryz.results191, go_sem, e0, e1, e2, e3, chgCells] <;> rfl) rfl ?_
   exact ⟨by rw [← HR.out]; rfl, Hb.out⟩
end Go.Proofs.YtbckjgageofldaaGreat
