/- Trees in memory, their order and shape. No condition. -/
import Derived.BigQuiet
import Derived.Deep.QuietTactic
import Derived.Below
import Derived.OpenShut
import Derived.Test.YtbckjgageofldaaGreatZLearnNil0
import Derived.Deep.DeepCutAuto
import Derived.Deep.CutBlock
namespace Go.Proofs.YtbckjgageofldaaGreat
open Go.RowKit
def slt (a b : ByteArray) : Bool := Op.bytesLess a.toList b.toList
theorem bl_irrefl : ∀ l : List UInt8, Op.bytesLess l l = false
 | [] => rfl
 | a :: l => by simp [Op.bytesLess, bl_irrefl l]
theorem bl_trans : ∀ {a b c : List UInt8}, Op.bytesLess a b = true → Op.bytesLess b c = true → Op.bytesLess a c = true
 | [], [], _, h, _ => by simp [Op.bytesLess] at h
 | [], _ :: _, [], _, h => by simp [Op.bytesLess] at h
 | [], _ :: _, _ :: _, _, _ => rfl
 | _ :: _, [], _, h, _ => by simp [Op.bytesLess] at h
 | _ :: _, _ :: _, [], _, h => by simp [Op.bytesLess] at h
 | a :: x, b :: y, c :: z, h1, h2 => by
  simp only [Op.bytesLess, Bool.or_eq_true, decide_eq_true_eq, Bool.and_eq_true, beq_iff_eq] at h1 h2 ⊢
  rcases h1 with h1 | ⟨rfl, h1⟩
  ·
   rcases h2 with h2 | ⟨rfl, h2⟩
   ·
    exact .inl (UInt8.lt_trans h1 h2)
   ·
    exact .inl h1
  ·
   rcases h2 with h2 | ⟨rfl, h2⟩
   ·
    exact .inl h2
   ·
    exact .inr ⟨rfl, bl_trans h1 h2⟩
theorem bl_total : ∀ {a b : List UInt8}, Op.bytesLess a b = false → Op.bytesLess b a = false → a = b
 | [], [], _, _ => rfl
 | [], _ :: _, h, _ => by simp [Op.bytesLess] at h
 | _ :: _, [], _, h => by simp [Op.bytesLess] at h
 | a :: x, b :: y, h1, h2 => by
  simp only [Op.bytesLess, Bool.or_eq_false_iff, decide_eq_false_iff_not, Bool.and_eq_false_iff, beq_eq_false_iff_ne] at h1 h2
  have e : a = b := UInt8.le_antisymm (UInt8.not_lt.1 h2.1) (UInt8.not_lt.1 h1.1)
  subst e
  rcases h1.2 with h | h
  ·
   exact absurd rfl h
  rcases h2.2 with h' | h'
  ·
   exact absurd rfl h'
  rw [bl_total h h']
theorem slt_irrefl (a : ByteArray) : slt a a = false := bl_irrefl _
theorem slt_trans {a b c : ByteArray} (h : slt a b = true) (k : slt b c = true) : slt a c = true := bl_trans h k
theorem slt_total {a b : ByteArray} (h : slt a b = false) (k : slt b a = false) : a = b := by
 have e := bl_total h k
 rw [ByteArray.toList_eq, ByteArray.toList_eq] at e
 cases a; cases b
 simpa using e
theorem slt_asymm {a b : ByteArray} (h : slt a b = true) : slt b a = false := by
 rw [Bool.eq_false_iff]
 intro k
 have := slt_trans h k
 rw [slt_irrefl] at this
 cases this
theorem slt_ne {a b : ByteArray} (h : slt a b = true) : a ≠ b := fun e => by rw [e, slt_irrefl] at h; cases h
theorem txt_ne {a b : ByteArray} (h : a ≠ b) : (a.toList == b.toList) = false := by
 rw [← Bool.not_eq_true, beq_iff_eq, ByteArray.toList_eq, ByteArray.toList_eq]
 intro e
 apply h
 cases a; cases b
 simpa using e
inductive Tr where
 | nil : Tr
 | node (b : Nat) (k v : ByteArray) (wt : BitVec 64) (l r : Tr) : Tr
def Tr.ptr : Tr → Option Addr
 | .nil => none
 | .node b _ _ _ _ _ => some ⟨b, 0, none⟩
def Tr.cnt : Tr → Nat
 | .nil => 0
 | .node _ _ _ _ l r => l.cnt + 1 + r.cnt
def Tr.dep : Tr → Nat
 | .nil => 0
 | .node _ _ _ _ l r => 1 + max l.dep r.dep
theorem Tr.dep_cnt : ∀ T : Tr, T.dep ≤ T.cnt
 | .nil => Nat.le_refl _
 | .node _ _ _ _ l r => by
  have := l.dep_cnt
  have := r.dep_cnt
  simp only [Tr.dep, Tr.cnt]
  omega
def nodeCells (k v : ByteArray) (wt : BitVec 64) (pl pr : Option Addr) (c d : Nat) : Array Value := #[.string k, .string v, .int .u64 (wt.toNat : Int), .pointer pl, .pointer pr, .int .i64 (c : Int), .int .i64 (d : Int)]
def NodeAt (w : World) (b : Nat) (k v : ByteArray) (wt : BitVec 64) (pl pr : Option Addr) (c d : Nat) : Prop := w.heap[b]? = some (.cells (nodeCells k v wt pl pr c d) 195 (0, 0))
def TreeAt (w : World) : Tr → Prop
 | .nil => True
 | .node b k v wt l r => NodeAt w b k v wt l.ptr r.ptr (l.cnt + 1 + r.cnt) (1 + max l.dep r.dep) ∧ TreeAt w l ∧ TreeAt w r
section
variable {w w' : World} {b : Nat} {k v : ByteArray} {wt : BitVec 64} {pl pr : Option Addr} {c d : Nat}
theorem NodeAt.lt (h : NodeAt w b k v wt pl pr c d) : b < w.heap.size := (Array.getElem?_eq_some_iff.1 h).1
theorem NodeAt.below (h : NodeAt w b k v wt pl pr c d) (hb : Below w.heap.size w w') : NodeAt w' b k v wt pl pr c d := (hb.block b h.lt).trans h
theorem NodeAt.cells (h : NodeAt w b k v wt pl pr c d) : w.cell? ⟨b, 0, none⟩ = some (.string k) ∧ w.cell? ⟨b, 1, none⟩ = some (.string v) ∧ w.cell? ⟨b, 2, none⟩ = some (.int .u64 (wt.toNat : Int)) ∧
  w.cell? ⟨b, 3, none⟩ = some (.pointer pl) ∧ w.cell? ⟨b, 4, none⟩ = some (.pointer pr) ∧ w.cell? ⟨b, 5, none⟩ = some (.int .i64 (c : Int)) ∧ w.cell? ⟨b, 6, none⟩ = some (.int .i64 (d : Int)) :=
 ⟨cell_of_row _ _ _ _ _ _ h, cell_of_row _ _ _ _ _ _ h, cell_of_row _ _ _ _ _ _ h, cell_of_row _ _ _ _ _ _ h, cell_of_row _ _ _ _ _ _ h, cell_of_row _ _ _ _ _ _ h, cell_of_row _ _ _ _ _ _ h⟩
theorem NodeAt.thawed (h : NodeAt w b k v wt pl pr c d) (j : Nat) : w.frozen? ⟨b, j, none⟩ = false := by
 unfold NodeAt at h
 simp [World.frozen?, h]
end
theorem TreeAt.below {w w' : World} : ∀ {T : Tr}, TreeAt w T → Below w.heap.size w w' → TreeAt w' T
 | .nil, _, _ => trivial
 | .node _ _ _ _ _ _, ⟨h1, h2, h3⟩, hb => ⟨h1.below hb, TreeAt.below h2 hb, TreeAt.below h3 hb⟩
theorem TreeAt.drew {w : World} : ∀ {T : Tr}, TreeAt w T → TreeAt w.drew T := fun h => h.below ⟨rfl, rfl, rfl, Nat.le_refl _, fun _ _ => rfl⟩
theorem TreeAt.uniq {w : World} : ∀ {T U : Tr}, TreeAt w T → TreeAt w U → T.ptr = U.ptr → T = U
 | .nil, .nil, _, _, _ => rfl
 | .nil, .node _ _ _ _ _ _, _, _, h => by simp [Tr.ptr] at h
 | .node _ _ _ _ _ _, .nil, _, _, h => by simp [Tr.ptr] at h
 | .node b k v wt l r, .node b' k' v' wt' l' r', ⟨h1, h2, h3⟩, ⟨g1, g2, g3⟩, h => by
  simp only [Tr.ptr, Option.some.injEq, Addr.mk.injEq, and_true] at h
  subst h
  unfold NodeAt at h1 g1
  rw [h1] at g1
  simp only [nodeCells, Option.some.injEq, Obj.cells.injEq, Array.mk.injEq, List.cons.injEq, Value.string.injEq, Value.int.injEq, Value.pointer.injEq, and_true, true_and] at g1
  obtain ⟨rfl, rfl, e3, e4, e5, _⟩ := g1
  have e3' : wt = wt' := BitVec.eq_of_toNat_eq (by omega)
  rw [e3', TreeAt.uniq h2 g2 e4, TreeAt.uniq h3 g3 e5]
def Tr.Lo (n : Nat) : Tr → Prop
 | .nil => True
 | .node b _ _ _ l r => b < n ∧ l.Lo n ∧ r.Lo n
theorem TreeAt.lo {w : World} : ∀ {T : Tr}, TreeAt w T → T.Lo w.heap.size
 | .nil, _ => trivial
 | .node _ _ _ _ _ _, ⟨h1, h2, h3⟩ => ⟨h1.lt, h2.lo, h3.lo⟩
def Tr.find (key : ByteArray) : Tr → Tr
 | .nil => .nil
 | .node b k v wt l r => if k = key then .node b k v wt l r else if slt key k then l.find key else r.find key
inductive Sub : Tr → Tr → Prop
 | refl (T : Tr) : Sub T T
 | left {S : Tr} {b : Nat} {k v : ByteArray} {wt : BitVec 64} {l r : Tr} : Sub S l → Sub S (.node b k v wt l r)
 | right {S : Tr} {b : Nat} {k v : ByteArray} {wt : BitVec 64} {l r : Tr} : Sub S r → Sub S (.node b k v wt l r)
theorem Sub.cnt {S T : Tr} (h : Sub S T) : S.cnt ≤ T.cnt := by
 induction h with
 | refl => exact Nat.le_refl _
 | left _ ih => simp only [Tr.cnt]; omega
 | right _ ih => simp only [Tr.cnt]; omega
theorem Sub.at {w : World} {S T : Tr} (h : Sub S T) : TreeAt w T → TreeAt w S := by
 induction h with
 | refl => exact id
 | left _ ih => exact fun h => ih h.2.1
 | right _ ih => exact fun h => ih h.2.2
theorem Sub.trans {A B C : Tr} (h : Sub A B) (k : Sub B C) : Sub A C := by
 induction k with
 | refl => exact h
 | left _ ih => exact .left ih
 | right _ ih => exact .right ih
theorem Tr.find_sub (key : ByteArray) : ∀ T : Tr, T.find key = .nil ∨ Sub (T.find key) T
 | .nil => .inl rfl
 | .node b k v wt l r => by
  unfold Tr.find
  split
  ·
   exact .inr (.refl _)
  split
  ·
   rcases l.find_sub key with h | h
   ·
    exact .inl h
   ·
    exact .inr (.left h)
  ·
   rcases r.find_sub key with h | h
   ·
    exact .inl h
   ·
    exact .inr (.right h)
theorem find_at {w : World} {T : Tr} (h : TreeAt w T) (key : ByteArray) : TreeAt w (T.find key) := by
 rcases T.find_sub key with e | e
 ·
  rw [e]; trivial
 ·
  exact e.at h
def Tr.val : Tr → Option ByteArray
 | .nil => none
 | .node _ _ v _ _ _ => some v
set_option maxHeartbeats 1000000 in
theorem len_any (T : Tr) (w : World) (h : TreeAt w T) : Calls Tryz.prog 54 #[.pointer T.ptr] w fun e w' => e = .returned (.int .i64 (T.cnt : Int)) ∧ w = w' := by
 match T, h with
 | .nil, _ =>
  go_enter Tryz.func54, Tryz.ntmps54
  simp only [Tr.ptr]
  go_wp2_with fail
  go_ret
  exact ⟨rfl, rfl⟩
 | .node b k v wt l r, ⟨h1, _, _⟩ =>
  obtain ⟨c0, c1, c2, c3, c4, c5, c6⟩ := h1.cells
  clear c0 c1 c2 c3 c4 c6 h1
  simp only [Tr.ptr, Tr.cnt]
  generalize l.cnt + 1 + r.cnt = n at *
  go_enter Tryz.func54, Tryz.ntmps54
  go_wp2_with fail
  go_ret
  exact ⟨rfl, rfl⟩
set_option maxHeartbeats 1000000 in
theorem depth_any (T : Tr) (w : World) (h : TreeAt w T) : Calls Tryz.prog 198 #[.pointer T.ptr] w fun e w' => e = .returned (.int .i64 (T.dep : Int)) ∧ w = w' := by
 match T, h with
 | .nil, _ =>
  go_enter Tryz.func198, Tryz.ntmps198
  simp only [Tr.ptr]
  go_wp2_with fail
  go_ret
  exact ⟨rfl, rfl⟩
 | .node b k v wt l r, ⟨h1, _, _⟩ =>
  obtain ⟨c0, c1, c2, c3, c4, c5, c6⟩ := h1.cells
  clear c0 c1 c2 c3 c4 c5 h1
  simp only [Tr.ptr, Tr.dep]
  generalize 1 + max l.dep r.dep = n at *
  go_enter Tryz.func198, Tryz.ntmps198
  go_wp2_with fail
  go_ret
  exact ⟨rfl, rfl⟩
def cntOf (w : World) : Value → Nat
 | .pointer (some p) => (match w.cell? ⟨p.block, 5, none⟩ with | some (.int _ c) => c.toNat | _ => 0)
 | _ => 0
theorem cntOf_eq {w : World} : ∀ {T : Tr}, TreeAt w T → cntOf w (.pointer T.ptr) = T.cnt
 | .nil, _ => rfl
 | .node _ _ _ _ _ _, ⟨h1, _, _⟩ => by
  obtain ⟨_, _, _, _, _, c5, _⟩ := h1.cells
  simp only [Tr.ptr, cntOf, c5, Tr.cnt]
  omega
theorem cntOf_node {w : World} {b : Nat} {k v : ByteArray} {wt : BitVec 64} {l r : Tr} (h : TreeAt w (.node b k v wt l r)) : cntOf w (.pointer (some ⟨b, 0, none⟩)) = l.cnt + 1 + r.cnt := cntOf_eq h
set_option maxHeartbeats 2000000 in
theorem find_any (key : ByteArray) (T : Tr) (w : World) (h : TreeAt w T) : Calls Tryz.prog 176 #[.pointer T.ptr, .string key] w fun e w' => e = .returned (.pointer (T.find key).ptr) ∧ w = w' := by
 obtain ⟨R, hR⟩ : ∃ R, T.find key = R := ⟨_, rfl⟩
 rw [hR]
 have H := Lib.hid h; clear h
 have HR := Lib.hid hR; clear hR
 go_enter Tryz.func176, Tryz.ntmps176
 go_wp2_with fail
 go_loopw [0] (fun s0 wr => w = wr ∧ ∃ S : Tr, s0 = .pointer S.ptr ∧ TreeAt w S ∧ S.find key = R ∧ S.cnt ≤ T.cnt) (fun s0 _ => cntOf w s0)
 case atStart => exact ⟨rfl, T, rfl, H.out, HR.out, Nat.le_refl _⟩
 case round =>
  obtain ⟨rfl, S, rfl, hS, hf, hc⟩ := hrel
  match S, hS, hf, hc with
  | .nil, _, hf, _ =>
   have hf' : R = .nil := hf.symm
   subst hf'
   simp only [Tr.ptr]
   clear hf HR
   go_wp2_with fail
   go_ret
   exact ⟨rfl, rfl⟩
  | .node b k v wt l r, hS, hf, hc =>
   obtain ⟨c0, c1, c2, c3, c4, c5, c6⟩ := hS.1.cells
   have HS := Lib.hid hS; clear hS
   simp only [Tr.ptr]
   unfold Tr.find at hf
   by_cases e : k = key
   ·
    rw [if_pos e] at hf
    subst e
    subst hf
    clear c1 c2 c3 c4 c5 c6
    go_wp2_with fail
    go_ret
    exact ⟨by rw [← hf]; rfl, rfl⟩
   ·
    have hne := txt_ne e
    rw [if_neg e] at hf
    by_cases hl : slt key k = true
    ·
     rw [if_pos hl] at hf
     have hl' : Op.bytesLess key.toList k.toList = true := hl
     have Hf := Lib.hid hf; clear hf
     clear hl c1 c2 c4 c6 e
     go_wp2_with fail
     go_roundw
     case rel => exact ⟨trivial, l, rfl, HS.out.2.1, Hf.out, by have := hc; simp only [Tr.cnt] at this; omega⟩
     case measure => rw [cntOf_node HS.out, cntOf_eq HS.out.2.1]; omega
    ·
     rw [if_neg hl] at hf
     have hl' : Op.bytesLess key.toList k.toList = false := by simpa [slt] using hl
     have Hf := Lib.hid hf; clear hf
     clear hl c1 c2 c3 c6 e
     go_wp2_with fail
     go_roundw
     case rel => exact ⟨trivial, r, rfl, HS.out.2.2, Hf.out, by have := hc; simp only [Tr.cnt] at this; omega⟩
     case measure => rw [cntOf_node HS.out, cntOf_eq HS.out.2.2]; omega
end Go.Proofs.YtbckjgageofldaaGreat
namespace Go.Proofs.YtbckjgageofldaaGreat
open Go.RowKit
def aboveB (wt : BitVec 64) (k : ByteArray) (wt' : BitVec 64) (k' : ByteArray) : Bool := if wt = wt' then slt k k' else decide (wt'.toNat < wt.toNat)
set_option maxHeartbeats 2000000 in
theorem above_any {b b' : Nat} {k v k' v' : ByteArray} {wt wt' : BitVec 64} {pl pr pl' pr' : Option Addr} {c d c' d' : Nat} (w : World) (h : NodeAt w b k v wt pl pr c d) (h' : NodeAt w b' k' v' wt' pl' pr' c' d') :
  Calls Tryz.prog 189 #[.pointer (some ⟨b, 0, none⟩), .pointer (some ⟨b', 0, none⟩)] w fun e w' => e = .returned (.bool (aboveB wt k wt' k')) ∧ Below w.heap.size w w' := by
 obtain ⟨c0, c1, c2, c3, c4, c5, c6⟩ := h.cells
 obtain ⟨e0, e1, e2, e3, e4, e5, e6⟩ := h'.cells
 clear c1 c3 c4 c5 c6 e1 e3 e4 e5 e6 h h'
 unfold aboveB
 by_cases hw : wt = wt'
 ·
  subst hw
  rw [if_pos rfl]
  obtain ⟨r, hr⟩ : ∃ r, slt k k' = r := ⟨_, rfl⟩
  rw [hr]
  have hr' : Op.bytesLess k.toList k'.toList = r := hr
  clear hr
  go_enter Tryz.func189, Tryz.ntmps189
  go_wp2_with fail
  go_quiet (fail)
  go_wp2_with fail
  go_quiet (fail)
  go_wp2_with fail
  go_ret
  exact ⟨rfl, rfl, rfl, rfl, Nat.le_refl _, fun _ _ => rfl⟩
 ·
  have hw' : wt.toNat ≠ wt'.toNat := fun e => hw (BitVec.eq_of_toNat_eq e)
  have hd : ((wt.toNat : Int) == (wt'.toNat : Int)) = false := by simp; omega
  have hd2 : ¬ wt.toNat = wt'.toNat := hw'
  rw [if_neg hw]
  obtain ⟨r, hr⟩ : ∃ r, decide (wt'.toNat < wt.toNat) = r := ⟨_, rfl⟩
  rw [hr]
  go_enter Tryz.func189, Tryz.ntmps189
  go_wp2_with fail
  go_quiet (fail)
  go_wp2_with fail
  go_quiet (fail)
  go_wp2_with fail
  go_ret
  exact ⟨rfl, rfl, rfl, rfl, Nat.le_refl _, fun _ _ => rfl⟩
theorem TreeAt.keep {w w' : World} {n : Nat} : ∀ {T : Tr}, TreeAt w T → T.Lo n → (∀ q, q < n → w'.heap[q]? = w.heap[q]?) → TreeAt w' T
 | .nil, _, _, _ => trivial
 | .node _ _ _ _ _ _, ⟨h1, h2, h3⟩, ⟨l1, l2, l3⟩, hb => ⟨(hb _ l1).trans h1, TreeAt.keep h2 l2 hb, TreeAt.keep h3 l3 hb⟩
theorem Tr.Lo.mono {n m : Nat} (hnm : n ≤ m) : ∀ {T : Tr}, T.Lo n → T.Lo m
 | .nil, _ => trivial
 | .node _ _ _ _ _ _, ⟨h1, h2, h3⟩ => ⟨Nat.lt_of_lt_of_le h1 hnm, h2.mono hnm, h3.mono hnm⟩
theorem NodeAt.set {w : World} {b : Nat} {k v k' v' : ByteArray} {wt wt' : BitVec 64} {pl pr pl' pr' : Option Addr} {c d c' d' i : Nat} {x : Value} (h : NodeAt w b k v wt pl pr c d)
  (hx : (nodeCells k v wt pl pr c d).setIfInBounds i x = nodeCells k' v' wt' pl' pr' c' d') : NodeAt (w.setCell ⟨b, i, none⟩ x) b k' v' wt' pl' pr' c' d' := by
 unfold NodeAt
 rw [heap_setCell_same _ _ _ _ _ _ h, hx]
theorem below_set {w0 w : World} {n b i : Nat} {x : Value} (h : Below n w0 w) (hb : n ≤ b) : Below n w0 (w.setCell ⟨b, i, none⟩ x) :=
 ⟨h.os, h.tape, h.output, by simpa [World.setCell] using h.size, fun q hq => (Below.heap_setCell _ _ _ _ (by show q ≠ b; omega)).trans (h.block q hq)⟩
set_option maxHeartbeats 2000000 in
theorem with_any {b : Nat} {k v : ByteArray} {wt : BitVec 64} {pl pr : Option Addr} {c d : Nat} (L R : Tr) (w : World) (h : NodeAt w b k v wt pl pr c d) (hL : TreeAt w L) (hR : TreeAt w R) (hc : L.cnt + 1 + R.cnt ≤ 4611686018427387904) :
  Calls Tryz.prog 193 #[.pointer (some ⟨b, 0, none⟩), .pointer L.ptr, .pointer R.ptr] w fun e w' => ∃ b', e = .returned (.pointer (some ⟨b', 0, none⟩)) ∧ w.heap.size ≤ b' ∧ TreeAt w' (.node b' k v wt L R) ∧ Below w.heap.size w w' := by
 obtain ⟨c0, c1, c2, c3, c4, c5, c6⟩ := h.cells
 have d1 := L.dep_cnt
 have d2 := R.dep_cnt
 have hw1 : IntKind.i64.wrap ((L.cnt : Int) + 1) = ((L.cnt + 1 : Nat) : Int) := by rw [IntKind.wrap_i64] <;> omega
 have hw2 : IntKind.i64.wrap (((L.cnt + 1 : Nat) : Int) + (R.cnt : Int)) = ((L.cnt + 1 + R.cnt : Nat) : Int) := by rw [IntKind.wrap_i64] <;> omega
 obtain ⟨mx, hmx⟩ : ∃ mx, max L.dep R.dep = mx := ⟨_, rfl⟩
 have hif : (if L.dep < R.dep then (R.dep : Int) else (L.dep : Int)) = (mx : Int) := by split <;> omega
 have hw3 : wrap64 (1 + (mx : Int)) = ((1 + mx : Nat) : Int) := by unfold wrap64; omega
 obtain ⟨mx1, hmx1⟩ : ∃ m, 1 + mx = m := ⟨_, rfl⟩
 rw [hmx1] at hw3
 have Hmx := Lib.hid (show 1 + max L.dep R.dep = mx1 by rw [hmx]; exact hmx1); clear hmx hmx1
 have HL := Lib.hid hL; clear hL
 have HR := Lib.hid hR; clear hR
 obtain ⟨m1, hm1⟩ : ∃ m, L.cnt + 1 = m := ⟨_, rfl⟩
 rw [hm1] at hw1 hw2
 obtain ⟨m2, hm2⟩ : ∃ m, m1 + R.cnt = m := ⟨_, rfl⟩
 rw [hm2] at hw2
 have Hm1 := Lib.hid hm1; clear hm1
 have Hm2 := Lib.hid hm2; clear hm2
 clear d1 d2 hc h
 go_enter Tryz.func193, Tryz.ntmps193
 go_upto_region 2 with fail
 have hb1 := (Below.refl w.heap.size w).alloc (Nat.le_refl _) (.cells (nodeCells k v wt pl pr c d) 195)
 have hn1 : NodeAt (w.alloc (.cells (nodeCells k v wt pl pr c d) 195)) w.heap.size k v wt pl pr c d := heap_alloc_new w _
 have hloL := HL.out.lo
 have hloR := HR.out.lo
 have hatL := HL.out
 have hatR := HR.out
 change Code.wp _ _ _ _ (w.alloc (.cells (nodeCells k v wt pl pr c d) 195))
 generalize w.alloc (.cells (nodeCells k v wt pl pr c d) 195) = w1 at *
 obtain ⟨g, hg⟩ : ∃ g, w.heap.size = g := ⟨_, rfl⟩
 rw [hg] at hb1 hn1 hloL hloR ⊢
 have Hg := Lib.hid hg; clear hg c0 c1 c2 c3 c4 c5 c6
 obtain ⟨c0, c1, c2, c3, c4, c5, c6⟩ := hn1.cells
 have z3 := hn1.thawed 3
 have z4 := hn1.thawed 4
 have hn2 : NodeAt ((w1.setCell ⟨g, 3, none⟩ (.pointer L.ptr)).setCell ⟨g, 4, none⟩ (.pointer R.ptr)) g k v wt L.ptr R.ptr c d := (hn1.set rfl).set rfl
 have hb2 : Below g w ((w1.setCell ⟨g, 3, none⟩ (.pointer L.ptr)).setCell ⟨g, 4, none⟩ (.pointer R.ptr)) := below_set (below_set hb1 (Nat.le_refl _)) (Nat.le_refl _)
 have Hn2 := Lib.hid hn2; clear hn2
 have Hb2 := Lib.hid hb2; clear hb2
 have HloL := Lib.hid hloL; clear hloL
 have HloR := Lib.hid hloR; clear hloR
 clear hb1 hn1 HL HR
 have HatL := Lib.hid hatL; clear hatL
 have HatR := Lib.hid hatR; clear hatR
 go_upto_region 3 with fail
 generalize (w1.setCell ⟨g, 3, none⟩ (.pointer L.ptr)).setCell ⟨g, 4, none⟩ (.pointer R.ptr) = w2 at *
 clear c0 c1 c2 c3 c4 c5 c6 z3 z4
 obtain ⟨c0, c1, c2, c3, c4, c5, c6⟩ := Hn2.out.cells
 have z5 := Hn2.out.thawed 5
 have hL2 : TreeAt w2 L := HatL.out.keep HloL.out Hb2.out.block
 have hR2 : TreeAt w2 R := HatR.out.keep HloR.out Hb2.out.block
 have hn3 : NodeAt (w2.setCell ⟨g, 5, none⟩ (.int .i64 (m2 : Int))) g k v wt L.ptr R.ptr m2 d := Hn2.out.set rfl
 have hb3 : Below g w (w2.setCell ⟨g, 5, none⟩ (.int .i64 (m2 : Int))) := below_set Hb2.out (Nat.le_refl _)
 have Hn3 := Lib.hid hn3; clear hn3
 have Hb3 := Lib.hid hb3; clear hb3
 have HL2 := Lib.hid hL2; clear hL2
 have HR2 := Lib.hid hR2; clear hR2
 go_upto_region 4 with (first
  | ((with_reducible refine (len_any L _ HL2.out).mono ?_); rintro e w' ⟨rfl, rfl⟩)
  | ((with_reducible refine (len_any R _ HR2.out).mono ?_); rintro e w' ⟨rfl, rfl⟩))
 generalize w2.setCell ⟨g, 5, none⟩ (.int .i64 (m2 : Int)) = w3 at *
 clear c0 c1 c2 c3 c4 c5 c6 z5 HL2 HR2 Hn2 Hb2
 obtain ⟨c0, c1, c2, c3, c4, c5, c6⟩ := Hn3.out.cells
 have z6 := Hn3.out.thawed 6
 have hL3 : TreeAt w3 L := HatL.out.keep HloL.out Hb3.out.block
 have hR3 : TreeAt w3 R := HatR.out.keep HloR.out Hb3.out.block
 have hn4 : NodeAt (w3.setCell ⟨g, 6, none⟩ (.int .i64 (mx1 : Int))) g k v wt L.ptr R.ptr m2 mx1 := Hn3.out.set rfl
 have hb4 : Below g w (w3.setCell ⟨g, 6, none⟩ (.int .i64 (mx1 : Int))) := below_set Hb3.out (Nat.le_refl _)
 have Hn4 := Lib.hid hn4; clear hn4
 have Hb4 := Lib.hid hb4; clear hb4
 have HL3 := Lib.hid hL3; clear hL3
 have HR3 := Lib.hid hR3; clear hR3
 go_upto_region 5 with (first
  | ((with_reducible refine (depth_any L _ HL3.out).mono ?_); rintro e w' ⟨rfl, rfl⟩)
  | ((with_reducible refine (depth_any R _ HR3.out).mono ?_); rintro e w' ⟨rfl, rfl⟩))
 go_wp2_with fail
 go_ret
 refine ⟨g, rfl, by have := Hg.out; omega, ⟨?_, HatL.out.keep HloL.out Hb4.out.block, HatR.out.keep HloR.out Hb4.out.block⟩, by have := Hb4.out; rw [← Hg.out] at this ⊢; exact this⟩
 have := Hn4.out
 rw [show L.cnt + 1 + R.cnt = m2 by have := Hm1.out; have := Hm2.out; omega, Hmx.out]
 exact this
end Go.Proofs.YtbckjgageofldaaGreat
