/- The document's pairs (palaverref10): Find. Condition: pairs that lie in a slice. -/
import Derived.OwnWalk
import Derived.Maps.AppendAt
import Derived.Laws.AppendOwnNone
import Derived.Test.YtbckjgageofldaaGreatZLearnNil10
namespace Go.Proofs.YtbckjgageofldaaGreat
open Go.RowKit
abbrev Prs := List (ByteArray × ByteArray)
def pairCells (p : ByteArray × ByteArray) : List Value := [.string p.1, .string p.2]
def flatPairs (L : Prs) : List Value := L.flatMap pairCells
abbrev PairsAt := SliceAt 2 pairCells
def pdflt : ByteArray × ByteArray := (ByteArray.empty, ByteArray.empty)
theorem pairs_len (L : Prs) : (flatPairs L).length = L.length * 2 := by
 induction L with
 | nil => rfl
 | cons a L ih => simp only [flatPairs, List.flatMap_cons, List.length_append, List.length_cons] at ih ⊢; rw [ih]; simp [pairCells]; omega
theorem pairs_at : ∀ (l : Prs) (i : Nat) (x : ByteArray × ByteArray) (j : Nat) (v : Value), l[i]? = some x → (pairCells x)[j]? = some v → (flatPairs l)[i * 2 + j]? = some v
 | [], i, x, j, v, h, _ => by simp at h
 | p :: l, 0, x, j, v, h, hj => by
  have hj2 : j < 2 := (List.getElem?_eq_some_iff.1 hj).1
  simp only [List.getElem?_cons_zero, Option.some.injEq] at h
  subst h
  simp only [flatPairs, List.flatMap_cons, Nat.zero_mul, Nat.zero_add]
  rw [List.getElem?_append_left (by simpa [pairCells] using hj2)]
  exact hj
 | p :: l, i + 1, x, j, v, h, hj => by
  simp only [List.getElem?_cons_succ] at h
  have := pairs_at l i x j v h hj
  simp only [flatPairs, List.flatMap_cons]
  rw [List.getElem?_append_right (by simp [pairCells]; omega)]
  have e : (i + 1) * 2 + j - (pairCells p).length = i * 2 + j := by simp [pairCells]; omega
  rw [e]
  exact this
theorem PairsAt.of_own {w : World} {base : Nat} {t : TypeId} {A : Option Addr} {n c : Nat} {l : Prs} (h : w.ownsRow base t 2 (.slice A n c) n (flatPairs l)) : PairsAt w A n l := by
 have hl : l.length = n := by have := h.1; rw [pairs_len] at this; omega
 rcases h.2 with ⟨e1, e2⟩ | ⟨g, cap, cur, e1, h2, h3, h4, h5, _, _⟩
 ·
  subst e2
  exact ⟨hl, Nat.zero_le _, fun i x hi => by
   have : l = [] := List.length_eq_zero_iff.1 hl
   rw [this] at hi; simp at hi⟩
 ·
  simp only [Value.slice.injEq] at e1
  obtain ⟨rfl, _, rfl⟩ := e1
  refine ⟨hl, by omega, fun i x hi => ⟨g, 0, rfl, (Array.getElem?_eq_some_iff.1 h3).1, fun j v hj => ?_⟩⟩
  have := h.cells (g := g) rfl (i * 2 + j) v (pairs_at l i x j v hi hj)
  rw [WideShapes.add_plain] at this
  exact this
theorem pairs_get {w : World} {A : Option Addr} {n i : Nat} {L : Prs} (h : PairsAt w A n L) (hi : i < n) :
  ∃ b o, A = some ⟨b, o, none⟩ ∧ b < w.heap.size ∧ w.cell? ⟨b, o + i * 2, none⟩ = some (.string (L.getD i pdflt).1) ∧ w.cell? ⟨b, o + i * 2 + 1, none⟩ = some (.string (L.getD i pdflt).2) := by
 have hl := h.hlen
 have hz : L[i]? = some (L.getD i pdflt) := by simp [List.getD, List.getElem?_eq_getElem (show i < L.length by omega)]
 obtain ⟨b, o, h1, h2, h3⟩ := h.cells i _ hz
 exact ⟨b, o, h1, h2, h3 0 _ rfl, h3 1 _ rfl⟩
theorem pair_cell : ∀ (M : Prs) (j : Nat) (u : Value), (flatPairs M)[j]? = some u → ∃ p, M[j / 2]? = some p ∧ (pairCells p)[j % 2]? = some u
 | [], j, u, h => by simp [flatPairs] at h
 | p :: M, 0, u, h => ⟨p, rfl, by simpa [flatPairs, pairCells] using h⟩
 | p :: M, 1, u, h => ⟨p, rfl, by simpa [flatPairs, pairCells] using h⟩
 | p :: M, j + 2, u, h => by
  have h' : (flatPairs M)[j]? = some u := by
   simp only [flatPairs, List.flatMap_cons] at h ⊢
   rw [List.getElem?_append_right (by simp [pairCells])] at h
   simpa [pairCells] using h
  obtain ⟨r, h1, h2⟩ := pair_cell M j u h'
  refine ⟨r, ?_, ?_⟩
  ·
   rw [show (j + 2) / 2 = j / 2 + 1 by omega]
   simpa using h1
  ·
   rw [show (j + 2) % 2 = j % 2 by omega]
   exact h2
theorem pairs_flat {w : World} {b o n i m : Nat} {L : Prs} (h : PairsAt w (some ⟨b, o, none⟩) n L) (j : Nat) (u : Value) (hj : (flatPairs ((L.drop i).take m))[j]? = some u) : w.cell? ⟨b, o + i * 2 + j, none⟩ = some u := by
 obtain ⟨p, h1, h2⟩ := pair_cell _ _ _ hj
 have h1' : (L.drop i)[j / 2]? = some p := by
  rw [List.getElem?_take] at h1
  split at h1
  ·
   exact h1
  ·
   cases h1
 rw [List.getElem?_drop] at h1'
 obtain ⟨b', o', e, _, h3⟩ := h.cells _ _ h1'
 cases e
 have := h3 _ _ h2
 rw [← this]
 congr 2
 omega
theorem pair_one {L : Prs} : ∀ u ∈ flatPairs L, u.oneCell' = true := by
 intro u hu
 simp only [flatPairs, List.mem_flatMap] at hu
 obtain ⟨p, _, hp⟩ := hu
 simp only [pairCells, List.mem_cons, List.not_mem_nil, or_false] at hp
 rcases hp with rfl | rfl <;> rfl
theorem pairs_append (L M : Prs) : flatPairs (L ++ M) = flatPairs L ++ flatPairs M := by simp [flatPairs]
def idxOf (L : Prs) (k : ByteArray) : Nat := (L.takeWhile (ltB k)).length
def isAt (L : Prs) (k : ByteArray) : Bool := match L.drop (idxOf L k) with | [] => false | p :: _ => decide (p.1 = k)
theorem drop_pair {L : Prs} {i : Nat} (h : i < L.length) : L.drop i = L.getD i pdflt :: L.drop (i + 1) := by
 rw [List.drop_eq_getElem_cons h]
 simp [List.getD, List.getElem?_eq_getElem h]
theorem takeWhile_at {L : Prs} {q : ByteArray × ByteArray → Bool} : ∀ {i : Nat}, i ≤ L.length → (∀ p ∈ L.take i, q p = true) → (∀ p M, L.drop i = p :: M → q p = false) → L.takeWhile q = L.take i := by
 induction L with
 | nil => intro i _ _ _; simp
 | cons a L ih =>
  intro i hi h1 h2
  match i with
  | 0 =>
   have := h2 a L rfl
   simp [this]
  | i + 1 =>
   have ha := h1 a (by simp)
   have e1 := ih (i := i) (by simpa using hi) (fun p hp => h1 p (by simp [hp])) (fun p M hp => h2 p M (by simpa using hp))
   simp [ha, e1]
set_option maxHeartbeats 1000000 in
theorem find10_any (A : Option Addr) (n c : Nat) (L : Prs) (k : ByteArray) (w : World) (h : PairsAt w A n L) :
  Calls Tryz.prog 146 #[.slice A n c, .string k] w fun e w' => e = .returned (.tuple #[.int .i64 (idxOf L k : Int), .bool (isAt L k)]) ∧ Below w.heap.size w w' := by
 have hm := h.hmax
 have hl := h.hlen
 unfold maxLen at hm
 have H := Lib.hid h; clear h
 go_enter Tryz.func146, Tryz.ntmps146
 go_wp2_with fail
 go_loopw [6] (fun s6 wr => wr = w ∧ ∃ i : Nat, i ≤ n ∧ s6 = .int .i64 (i : Int) ∧ ∀ p ∈ L.take i, ltB k p = true) (fun s6 _ => n - (intOf s6).toNat)
 case atStart => exact ⟨rfl, 0, by omega, rfl, fun p hp => by simp at hp⟩
 case round =>
  obtain ⟨rfl, i, hi, rfl, hall⟩ := hrel
  by_cases hlt : i < n
  ·
   have hlt' : (i : Int) < (n : Int) := by omega
   obtain ⟨b, o, rfl, _, c0, c1⟩ := pairs_get H.out hlt
   have hsucc := tsucc (n := i) (by omega)
   have htk : L.take (i + 1) = L.take i ++ [L.getD i pdflt] := by
    rw [List.take_add_one]
    simp [List.getD, List.getElem?_eq_getElem (show i < L.length by omega)]
   have hdr := drop_pair (show i < L.length by omega)
   generalize L.getD i pdflt = p at *
   obtain ⟨kk, val⟩ := p
   simp only at c0 c1
   clear c1
   by_cases hx : slt kk k = true
   ·
    have hx' : Op.bytesLess kk.toList k.toList = true := hx
    have hall2 : ∀ p ∈ L.take (i + 1), ltB k p = true := fun p hp => by
     rw [htk, List.mem_append, List.mem_singleton] at hp
     rcases hp with hp | rfl
     ·
      exact hall p hp
     ·
      exact hx
    have Hall := Lib.hid hall2; clear hall2 hall htk hdr hx hl
    go_wp2_with fail
    go_roundw
    case rel => exact ⟨trivial, i + 1, hlt, rfl, Hall.out⟩
    case measure => simp [intOf]; omega
   ·
    have hx' : Op.bytesLess kk.toList k.toList = false := by simpa [slt] using hx
    have hidx : idxOf L k = i := by
     unfold idxOf
     rw [takeWhile_at (show i ≤ L.length by omega) hall (fun p M hp => by rw [hdr] at hp; cases hp; simpa [ltB] using hx), List.length_take]
     omega
    have hat : isAt L k = (kk.toList == k.toList) := by
     unfold isAt
     rw [hidx, hdr]
     simp only
     by_cases e : kk = k
     ·
      subst e; simp
     ·
      rw [txt_ne e]; simpa using e
    have Hidx := Lib.hid hidx; clear hidx
    have Hat := Lib.hid hat; clear hat htk hdr hx hall hl
    go_wp2_with fail
    go_quiet (fail)
    go_wp2_with fail
    go_ret2
    exact ⟨by rw [Hidx.out, Hat.out]; rfl, ⟨rfl, rfl, rfl, Nat.le_refl _, fun _ _ => rfl⟩⟩
  ·
   have hlt' : ¬ (i : Int) < (n : Int) := by omega
   have hdr : L.drop i = [] := List.drop_of_length_le (by omega)
   have hidx : idxOf L k = i := by
    unfold idxOf
    rw [takeWhile_at (show i ≤ L.length by omega) hall (fun p M hp => by rw [hdr] at hp; cases hp), List.length_take]
    omega
   have hat : isAt L k = false := by
    unfold isAt
    rw [hidx, hdr]
   have Hidx := Lib.hid hidx; clear hidx
   have Hat := Lib.hid hat; clear hat hdr hall hl
   go_wp2_with fail
   go_quiet (fail)
   go_wp2_with fail
   go_ret2
   exact ⟨by rw [Hidx.out, Hat.out]; rfl, ⟨rfl, rfl, rfl, Nat.le_refl _, fun _ _ => rfl⟩⟩
end Go.Proofs.YtbckjgageofldaaGreat
