/- The document's row (palaverref16): Keep, Jump. Condition: the row's slots lie in items of their own; at most 1048576 of them. -/
import Derived.Test.YtimhpncdlaildaaSlM
namespace Go.Proofs.Ytimhpncdlaildaa
open Go.RowKit

/-- Behind the head of a function that takes the row by value and answers a row: the row in block g, the answer's cells in block g + 1. -/
structure Head (w w2 : World) (g : Nat) (b t : BitVec 64) (A : Option Addr) (n c : Nat) (L : Its) : Prop where
  hg : w.heap.size = g
  hb : Below g w w2
  hr : RefAt w2 g b t A n c
  ho : RefAt w2 (g + 1) 0#64 0#64 none 0 0
  hi : ItemsAt w2 A n L
  hs : w2.heap.size = g + 2
theorem head_of {w : World} {A : Option Addr} {n : Nat} {L : Its} (h : ItemsAt w A n L) (b t : BitVec 64) (c : Nat) :
    Head w ((w.alloc (.cells (refCells b t A n c) 46)).alloc (.cells (refCells 0#64 0#64 none 0 0) 46)) w.heap.size b t A n c L := by
  have hb1 := (Below.refl w.heap.size w).alloc (Nat.le_refl _) (.cells (refCells b t A n c) 46)
  have hr := RefAt.new w b t A n c
  have ho2 := RefAt.new (w.alloc (.cells (refCells b t A n c) 46)) 0#64 0#64 none 0 0
  have hsz : (w.alloc (.cells (refCells b t A n c) 46)).heap.size = w.heap.size + 1 := by simp
  rw [hsz] at ho2
  exact ⟨rfl, hb1.alloc hb1.size _, hr.below ((Below.refl _ _).alloc (Nat.le_refl _) _), ho2, (h.below hb1).below ((Below.refl _ _).alloc (Nat.le_refl _) _), by simp⟩

/-- A row that is stored whole. -/
def stored (w : World) (g : Nat) (x t : BitVec 64) (A : Option Addr) (n c : Nat) : World := ((w.setCell ⟨g, 0, none⟩ (.int .u64 (x.toNat : Int))).setCell ⟨g, 1, none⟩ (.int .u64 (t.toNat : Int))).setCell ⟨g, 2, none⟩ (.slice A n c)
section
variable {w : World} {g : Nat} {b' t' x t : BitVec 64} {A' A : Option Addr} {n' c' n c : Nat}
theorem stored_at (h : RefAt w g b' t' A' n' c') : RefAt (stored w g x t A n c) g x t A n c := by
  have h1 := heap_setCell_same w g 0 _ _ (.int .u64 (x.toNat : Int)) h
  have h2 := heap_setCell_same _ g 1 _ _ (.int .u64 (t.toNat : Int)) h1
  exact heap_setCell_same _ g 2 _ _ (.slice A n c) h2
theorem stored_size : (stored w g x t A n c).heap.size = w.heap.size := by simp [stored, World.setCell]
theorem stored_other {q : Nat} (hq : q ≠ g) : (stored w g x t A n c).heap[q]? = w.heap[q]? := by
  rw [stored, Below.heap_setCell _ _ _ _ (by exact hq), Below.heap_setCell _ _ _ _ (by exact hq), Below.heap_setCell _ _ _ _ (by exact hq)]
theorem stored_items {B : Option Addr} {m : Nat} {L : Its} (h : ItemsAt w B m L) (hB : ∀ b o, B = some ⟨b, o, none⟩ → 0 < m → b ≠ g) : ItemsAt (stored w g x t A n c) B m L := by
  refine ⟨h.hlen, h.hmax, fun i y hi => ?_⟩
  obtain ⟨b, o, e1, e2, e3⟩ := h.cells i y hi
  have hl := h.hlen
  have hi' : i < L.length := (List.getElem?_eq_some_iff.1 hi).1
  refine ⟨b, o, e1, by rw [stored_size]; exact e2, fun j v hj => ?_⟩
  rw [← e3 j v hj]
  simp only [World.cell?, stored_other (hB b o e1 (by omega))]
theorem stored_below {w0 : World} {g0 : Nat} (h : Below g0 w0 w) (hg : g0 ≤ g) : Below g0 w0 (stored w g x t A n c) :=
  ⟨h.os, h.tape, h.output, by rw [stored_size]; exact h.size, fun q hq => by rw [stored_other (by omega)]; exact h.block q hq⟩
end
theorem ref_ne {w : World} {g : Nat} {b t : BitVec 64} {A : Option Addr} {n c : Nat} {B : Option Addr} {m : Nat} {L : Its} (h : RefAt w g b t A n c) (hi : ItemsAt w B m L) : ∀ b o, B = some ⟨b, o, none⟩ → 0 < m → b ≠ g := by
  intro b' o e hm hbg
  subst hbg
  obtain ⟨b2, o2, e2, _, _, h1⟩ := items_get hi hm
  rw [e] at e2
  cases e2
  rw [cell_of_row _ _ _ _ _ _ h] at h1
  match o, h1 with
  | 0, h1 => simp [refCells] at h1
  | 1, h1 => simp [refCells] at h1
  | o + 2, h1 => simp [refCells] at h1
theorem RefAt.thawed {w : World} {g : Nat} {b t : BitVec 64} {A : Option Addr} {n c : Nat} (h : RefAt w g b t A n c) (j : Nat) : w.frozen? ⟨g, j, none⟩ = false := by
  unfold RefAt at h
  simp [World.frozen?, h]
theorem items_old {w w2 : World} {A : Option Addr} {n g : Nat} {L : Its} (h : ItemsAt w A n L) (hg : w.heap.size = g) : ∀ b o, A = some ⟨b, o, none⟩ → 0 < n → b < g := fun b o e hn => by
  obtain ⟨b', o', h1, h2, _⟩ := items_get h hn
  rw [e] at h1
  cases h1
  omega

/-- A row, and an error's number. -/
def RefPost2 (er : Nat) (b t : BitVec 64) (L : Its) (w : World) (e : Ending) (w' : World) : Prop :=
  ∃ A n c, e = .returned (.tuple #[refV b t A n c, .int .i64 (er : Int)]) ∧ ItemsAt w' A n L ∧ Below w.heap.size w w' ∧ SlOk A n c

set_option maxRecDepth 100000 in
set_option maxHeartbeats 1000000 in
theorem refKeep_any (b t x : BitVec 64) (A : Option Addr) (n c : Nat) (L : Its) (w : World) (h : ItemsAt w A n L) (hok : SlOk A n c) (hn : n ≤ 1048576) (er : Nat) (b' : BitVec 64) (L' : Its)
    (hs : (t.toNat < x.toNat ∧ er = 2 ∧ b' = b ∧ L' = L) ∨ (¬ t.toNat < x.toNat ∧ x.toNat ≤ b.toNat ∧ er = 0 ∧ b' = b ∧ L' = L) ∨ (¬ t.toNat < x.toNat ∧ ¬ x.toNat ≤ b.toNat ∧ er = 0 ∧ b' = x ∧ L' = L.filter fun p => decide (x.toNat < p.1.toNat))) :
    Calls Try.prog 28 #[refV b t A n c, .int .u64 (x.toNat : Int)] w (RefPost2 er b' t L' w) := by
  have Hok := Lib.hid hok; clear hok
  have hold := items_old (w2 := w) h rfl
  have hh := head_of h b t c
  have Hold := Lib.hid hold; clear hold h
  unfold refV
  go_enter Try.func28, Try.ntmps28
  go_upto_region 1 with fail
  change Code.wp _ _ _ _ ((w.alloc (.cells (refCells b t A n c) 46)).alloc (.cells (refCells 0#64 0#64 none 0 0) 46))
  generalize (w.alloc (.cells (refCells b t A n c) 46)).alloc (.cells (refCells 0#64 0#64 none 0 0) 46) = w2 at *
  obtain ⟨g, hg⟩ : ∃ g, w.heap.size = g := ⟨_, rfl⟩
  rw [hg] at hh ⊢
  rw [hg] at Hold
  obtain ⟨r0, r1, r2⟩ := hh.hr.cells
  obtain ⟨o0, o1, o2⟩ := hh.ho.cells
  have z0 := hh.ho.thawed 0
  have z1 := hh.ho.thawed 1
  have z2 := hh.ho.thawed 2
  have Hh := Lib.hid hh; clear hh
  have Hg := Lib.hid hg; clear hg
  obtain ⟨g4, hg4⟩ : ∃ g4, g + 1 = g4 := ⟨_, rfl⟩
  rw [hg4] at o0 o1 o2 z0 z1 z2 ⊢
  have Hg4 := Lib.hid hg4; clear hg4
  have Hs := Lib.hid hs; clear hs
  rcases Hs.out with ⟨d1, rfl, rfl, rfl⟩ | ⟨d1, d2, rfl, rfl, rfl⟩ | ⟨d1, d2, rfl, rfl, rfl⟩
  · have d1' : (t.toNat : Int) < (x.toNat : Int) := by omega
    clear Hs d1
    go_wp2_with fail
    change bodyPost _ _ _ _ _ (stored w2 g4 b' t A n c)
    have hst := stored_at (x := b') (t := t) (A := A) (n := n) (c := c) (show RefAt w2 g4 0#64 0#64 none 0 0 by rw [← Hg4.out]; exact Hh.out.ho)
    obtain ⟨s0, s1, s2⟩ := hst.cells
    refine bodyPost_ret (v := .tuple #[refV b' t A n c, .int .i64 2]) (by simp [results, Try.results28, go_sem, s0, s1, s2, refV, refCells] <;> rfl) rfl ?_
    refine ⟨A, n, c, rfl, stored_items Hh.out.hi (fun b o e hn => by have := Hold.out b o e hn; have := Hg4.out; omega), ?_, Hok.out⟩
    rw [Hg.out]
    exact stored_below Hh.out.hb (by have := Hg4.out; omega)
  · have d1' : ¬ (t.toNat : Int) < (x.toNat : Int) := by omega
    have d2' : (x.toNat : Int) ≤ (b'.toNat : Int) := by omega
    clear Hs d1 d2
    go_wp2_with fail
    change bodyPost _ _ _ _ _ (stored w2 g4 b' t A n c)
    have hst := stored_at (x := b') (t := t) (A := A) (n := n) (c := c) (show RefAt w2 g4 0#64 0#64 none 0 0 by rw [← Hg4.out]; exact Hh.out.ho)
    obtain ⟨s0, s1, s2⟩ := hst.cells
    refine bodyPost_ret (v := .tuple #[refV b' t A n c, .int .i64 0]) (by simp [results, Try.results28, go_sem, s0, s1, s2, refV, refCells] <;> rfl) rfl ?_
    refine ⟨A, n, c, rfl, stored_items Hh.out.hi (fun b o e hn => by have := Hold.out b o e hn; have := Hg4.out; omega), ?_, Hok.out⟩
    rw [Hg.out]
    exact stored_below Hh.out.hb (by have := Hg4.out; omega)
  · have d1' : ¬ (t.toNat : Int) < (b'.toNat : Int) := by omega
    have d2' : ¬ (b'.toNat : Int) ≤ (b.toNat : Int) := by omega
    clear Hs d1 d2
    go_wp2_with fail
    refine (refCut_any b t b' A n c L w2 Hh.out.hi hn).mono ?_
    rintro e w3 ⟨A3, n3, c3, rfl, hi3, hb3, hok3⟩
    have ho3 : RefAt w3 g4 0#64 0#64 none 0 0 := RefAt.below (by rw [← Hg4.out]; exact Hh.out.ho) hb3
    obtain ⟨o0, o1, o2⟩ := ho3.cells
    have z0 := ho3.thawed 0
    have z1 := ho3.thawed 1
    have z2 := ho3.thawed 2
    have Ho3 := Lib.hid ho3; clear ho3
    have Hi3 := Lib.hid hi3; clear hi3
    have Hb3 := Lib.hid hb3; clear hb3
    unfold refV refCells
    go_wp2_with fail
    change bodyPost _ _ _ _ _ (stored w3 g4 b' t A3 n3 c3)
    have hst := stored_at (x := b') (t := t) (A := A3) (n := n3) (c := c3) Ho3.out
    obtain ⟨s0, s1, s2⟩ := hst.cells
    refine bodyPost_ret (v := .tuple #[refV b' t A3 n3 c3, .int .i64 0]) (by simp [results, Try.results28, go_sem, s0, s1, s2, refV, refCells] <;> rfl) rfl ?_
    refine ⟨A3, n3, c3, rfl, stored_items Hi3.out (ref_ne Ho3.out Hi3.out), ?_, hok3⟩
    · rw [Hg.out]
      exact stored_below (Hh.out.hb.trans (Hb3.out.mono (by have := Hh.out.hs; omega))) (by have := Hg4.out; omega)

set_option maxRecDepth 100000 in
set_option maxHeartbeats 1000000 in
theorem refJump_any (b t x : BitVec 64) (A : Option Addr) (n c : Nat) (L : Its) (w : World) (h : ItemsAt w A n L) (hok : SlOk A n c) (hn : n ≤ 1048576) (er : Nat) (b' t' : BitVec 64) (L' : Its)
    (hs : ((x.toNat < t.toNat ∨ 4611686018427387904 < x.toNat) ∧ er = 2 ∧ b' = b ∧ t' = t ∧ L' = L) ∨ (¬ (x.toNat < t.toNat ∨ 4611686018427387904 < x.toNat) ∧ er = 0 ∧ b' = x ∧ t' = x ∧ L' = L.filter fun p => decide (x.toNat < p.1.toNat))) :
    Calls Try.prog 29 #[refV b t A n c, .int .u64 (x.toNat : Int)] w (RefPost2 er b' t' L' w) := by
  have Hok := Lib.hid hok; clear hok
  have hold := items_old (w2 := w) h rfl
  have hh := head_of h b t c
  have Hold := Lib.hid hold; clear hold h
  unfold refV
  go_enter Try.func29, Try.ntmps29
  go_upto_region 1 with fail
  change Code.wp _ _ _ _ ((w.alloc (.cells (refCells b t A n c) 46)).alloc (.cells (refCells 0#64 0#64 none 0 0) 46))
  generalize (w.alloc (.cells (refCells b t A n c) 46)).alloc (.cells (refCells 0#64 0#64 none 0 0) 46) = w2 at *
  obtain ⟨g, hg⟩ : ∃ g, w.heap.size = g := ⟨_, rfl⟩
  rw [hg] at hh ⊢
  rw [hg] at Hold
  obtain ⟨r0, r1, r2⟩ := hh.hr.cells
  obtain ⟨o0, o1, o2⟩ := hh.ho.cells
  have z0 := hh.ho.thawed 0
  have z1 := hh.ho.thawed 1
  have z2 := hh.ho.thawed 2
  have Hh := Lib.hid hh; clear hh
  have Hg := Lib.hid hg; clear hg
  obtain ⟨g4, hg4⟩ : ∃ g4, g + 1 = g4 := ⟨_, rfl⟩
  rw [hg4] at o0 o1 o2 z0 z1 z2 ⊢
  have Hg4 := Lib.hid hg4; clear hg4
  have Hs := Lib.hid hs; clear hs
  rcases Hs.out with ⟨d1, rfl, rfl, rfl, rfl⟩ | ⟨d1, rfl, rfl, rfl, rfl⟩
  · clear Hs
    by_cases d2 : x.toNat < t'.toNat
    · have d2' : (x.toNat : Int) < (t'.toNat : Int) := by omega
      clear d1 d2
      go_wp2_with fail
      change bodyPost _ _ _ _ _ (stored w2 g4 b' t' A n c)
      have hst := stored_at (x := b') (t := t') (A := A) (n := n) (c := c) (show RefAt w2 g4 0#64 0#64 none 0 0 by rw [← Hg4.out]; exact Hh.out.ho)
      obtain ⟨s0, s1, s2⟩ := hst.cells
      refine bodyPost_ret (v := .tuple #[refV b' t' A n c, .int .i64 2]) (by simp [results, Try.results29, go_sem, s0, s1, s2, refV, refCells] <;> rfl) rfl ?_
      refine ⟨A, n, c, rfl, stored_items Hh.out.hi (fun b o e hn => by have := Hold.out b o e hn; have := Hg4.out; omega), ?_, Hok.out⟩
      rw [Hg.out]
      exact stored_below Hh.out.hb (by have := Hg4.out; omega)
    · have d2' : ¬ (x.toNat : Int) < (t'.toNat : Int) := by omega
      have d3' : (4611686018427387904 : Int) < (x.toNat : Int) := by omega
      clear d1 d2
      go_wp2_with fail
      change bodyPost _ _ _ _ _ (stored w2 g4 b' t' A n c)
      have hst := stored_at (x := b') (t := t') (A := A) (n := n) (c := c) (show RefAt w2 g4 0#64 0#64 none 0 0 by rw [← Hg4.out]; exact Hh.out.ho)
      obtain ⟨s0, s1, s2⟩ := hst.cells
      refine bodyPost_ret (v := .tuple #[refV b' t' A n c, .int .i64 2]) (by simp [results, Try.results29, go_sem, s0, s1, s2, refV, refCells] <;> rfl) rfl ?_
      refine ⟨A, n, c, rfl, stored_items Hh.out.hi (fun b o e hn => by have := Hold.out b o e hn; have := Hg4.out; omega), ?_, Hok.out⟩
      rw [Hg.out]
      exact stored_below Hh.out.hb (by have := Hg4.out; omega)
  · have d2' : ¬ (t'.toNat : Int) < (t.toNat : Int) := by omega
    have d3' : ¬ (4611686018427387904 : Int) < (t'.toNat : Int) := by omega
    have y1 := Hh.out.hr.thawed 1
    clear Hs d1
    go_upto_region 4 with fail
    have hset := heap_setCell_same w2 g 1 _ _ (.int .u64 (t'.toNat : Int)) Hh.out.hr
    have hr2 : RefAt (w2.setCell ⟨g, 1, none⟩ (.int .u64 (t'.toNat : Int))) g b t' A n c := hset
    have hsz : (w2.setCell ⟨g, 1, none⟩ (.int .u64 (t'.toNat : Int))).heap.size = w2.heap.size := by simp [World.setCell]
    have hoth : ∀ q, q ≠ g → (w2.setCell ⟨g, 1, none⟩ (.int .u64 (t'.toNat : Int))).heap[q]? = w2.heap[q]? := fun q hq => Below.heap_setCell _ _ _ _ (by exact hq)
    have hi2 : ItemsAt (w2.setCell ⟨g, 1, none⟩ (.int .u64 (t'.toNat : Int))) A n L := by
      have hi := Hh.out.hi
      refine ⟨hi.hlen, hi.hmax, fun i y hiy => ?_⟩
      obtain ⟨bb, oo, e1, e2, e3⟩ := hi.cells i y hiy
      have hl := hi.hlen
      have hi' : i < L.length := (List.getElem?_eq_some_iff.1 hiy).1
      refine ⟨bb, oo, e1, by rw [hsz]; exact e2, fun j v hj => ?_⟩
      rw [← e3 j v hj]
      simp only [World.cell?, hoth bb (ref_ne Hh.out.hr hi bb oo e1 (by omega))]
    have hbl2 : Below g w (w2.setCell ⟨g, 1, none⟩ (.int .u64 (t'.toNat : Int))) := by
      have h := Hh.out.hb
      exact ⟨h.os, h.tape, h.output, by rw [hsz]; exact h.size, fun q hq => by rw [hoth q (by omega)]; exact h.block q hq⟩
    have ho2 : RefAt (w2.setCell ⟨g, 1, none⟩ (.int .u64 (t'.toNat : Int))) g4 0#64 0#64 none 0 0 := (hoth g4 (by have := Hg4.out; omega)).trans (by rw [← Hg4.out]; exact Hh.out.ho)
    clear r0 r1 r2 o0 o1 o2 z0 z1 z2 y1 hset hoth
    have hs3 := Hh.out.hs
    generalize w2.setCell ⟨g, 1, none⟩ (.int .u64 (t'.toNat : Int)) = w3 at *
    obtain ⟨r0, r1, r2⟩ := hr2.cells
    have Hi2 := Lib.hid hi2; clear hi2
    have Hbl2 := Lib.hid hbl2; clear hbl2
    have Ho2 := Lib.hid ho2; clear ho2
    have Hsz := Lib.hid (hsz.trans hs3); clear hsz hs3
    clear hr2
    go_wp2_with fail
    refine (refCut_any b t' t' A n c L w3 Hi2.out hn).mono ?_
    rintro e w4 ⟨A3, n3, c3, rfl, hi3, hb3, hok3⟩
    have ho3 : RefAt w4 g4 0#64 0#64 none 0 0 := RefAt.below Ho2.out hb3
    obtain ⟨o0, o1, o2⟩ := ho3.cells
    have z0 := ho3.thawed 0
    have z1 := ho3.thawed 1
    have z2 := ho3.thawed 2
    have Ho3 := Lib.hid ho3; clear ho3
    have Hi3 := Lib.hid hi3; clear hi3
    have Hb3 := Lib.hid hb3; clear hb3
    unfold refV refCells
    go_wp2_with fail
    change bodyPost _ _ _ _ _ (stored w4 g4 t' t' A3 n3 c3)
    have hst := stored_at (x := t') (t := t') (A := A3) (n := n3) (c := c3) Ho3.out
    obtain ⟨s0, s1, s2⟩ := hst.cells
    refine bodyPost_ret (v := .tuple #[refV t' t' A3 n3 c3, .int .i64 0]) (by simp [results, Try.results29, go_sem, s0, s1, s2, refV, refCells] <;> rfl) rfl ?_
    refine ⟨A3, n3, c3, rfl, stored_items Hi3.out (ref_ne Ho3.out Hi3.out), ?_, hok3⟩
    rw [Hg.out]
    exact stored_below (Hbl2.out.trans (Hb3.out.mono (by have := Hsz.out; omega))) (by have := Hg4.out; omega)
end Go.Proofs.Ytimhpncdlaildaa
