/- The row of slots: its parts, New, Put, Next, Get, Keep, Jump, Base, Top, Last: what each computes. No condition. -/
import Derived.Test.YtimhpncdlaildaaSlA
import Derived.Laws.Rows
import Derived.Laws.ResultCell
namespace Go.Proofs.Ytimhpncdlaildaa
open Go.RowKit

structure SRow where
  base : BitVec 64
  top : BitVec 64
  last : BitVec 64
  l : List (BitVec 64 × ByteArray)

def vl (l : List (BitVec 64 × ByteArray)) : List (BitVec 64 × Value) := l.map fun p => (p.1, .string p.2)
theorem vl_get (l : List (BitVec 64 × ByteArray)) (k : BitVec 64) : mget (vl l) k = (mget l k).map .string := by
  simp only [mget, vl, List.find?_map, Option.map_map]
  rfl
theorem vl_put (l : List (BitVec 64 × ByteArray)) (k : BitVec 64) (v : ByteArray) : mput (vl l) k (.string v) = vl (mput l k v) := by
  simp only [mput, vl_get, Option.isSome_map]
  split
  · simp only [vl, List.map_map]
    apply List.map_congr_left
    intro p _
    by_cases h : p.1 = k <;> simp [h]
  · simp [vl]
theorem vl_filter (l : List (BitVec 64 × ByteArray)) (q : BitVec 64 → Bool) : ((vl l).filter fun p => q p.1) = vl (l.filter fun p => q p.1) := by
  simp only [vl, List.filter_map]
  rfl

def rowCells (s : SRow) (B : Nat) : Array Value := #[.int .u64 (s.base.toNat : Int), .int .u64 (s.top.toNat : Int), .int .u64 (s.last.toNat : Int), .map (some B)]
/-- The row at block R, its values at block B. -/
structure RowAt (w : World) (R B : Nat) (s : SRow) : Prop where
  blk : w.heap[R]? = some (.cells (rowCells s B) 117 (0, 0))
  vals : MapAt kSlot w B (vl s.l)

theorem RowAt.ne {w : World} {R B : Nat} {s : SRow} (h : RowAt w R B s) : R ≠ B := by
  intro e
  obtain ⟨es, c, h1, _⟩ := h.vals
  have := h.blk
  rw [e, h1] at this
  cases this
theorem RowAt.ltR {w : World} {R B : Nat} {s : SRow} (h : RowAt w R B s) : R < w.heap.size := (Array.getElem?_eq_some_iff.1 h.blk).1
theorem RowAt.below {w w' : World} {R B : Nat} {s : SRow} (h : RowAt w R B s) (hb : Below w.heap.size w w') : RowAt w' R B s :=
  ⟨(hb.block R h.ltR).trans h.blk, h.vals.below kSlot hb⟩
theorem RowAt.drew {w : World} {R B : Nat} {s : SRow} (h : RowAt w R B s) : RowAt w.drew R B s := ⟨h.blk, h.vals⟩
theorem RowAt.cells {w : World} {R B : Nat} {s : SRow} (h : RowAt w R B s) : w.cell? ⟨R, 0, none⟩ = some (.int .u64 (s.base.toNat : Int)) ∧ w.cell? ⟨R, 1, none⟩ = some (.int .u64 (s.top.toNat : Int)) ∧ w.cell? ⟨R, 2, none⟩ = some (.int .u64 (s.last.toNat : Int)) ∧ w.cell? ⟨R, 3, none⟩ = some (.map (some B)) := by
  refine ⟨?_, ?_, ?_, ?_⟩ <;> rw [cell_of_row _ _ _ _ _ _ h.blk] <;> rfl
theorem RowAt.thawed {w : World} {R B : Nat} {s : SRow} (h : RowAt w R B s) (i : Nat) : w.frozen? ⟨R, i, none⟩ = false := by
  have := h.blk
  simp [World.frozen?, this]
theorem RowAt.set {w : World} {R B : Nat} {s s' : SRow} (h : RowAt w R B s) {i : Nat} {v : Value} (hc : (rowCells s B).setIfInBounds i v = rowCells s' B) (hl : s'.l = s.l) : RowAt (w.setCell ⟨R, i, none⟩ v) R B s' :=
  ⟨by rw [heap_setCell_same _ _ _ _ _ _ h.blk, hc], by rw [hl]; exact h.vals.of_block kSlot (Below.heap_setCell _ _ _ _ (fun e => h.ne e.symm))⟩

theorem zStr (w : World) : (zeroValue 9).run Try.prog w = .ok (.string ByteArray.empty) w := by kernel_rfl

theorem bytes_ne {a b : ByteArray} (h : a ≠ b) : (a.toList == b.toList) = false := by
  rw [← Bool.not_eq_true, beq_iff_eq, ByteArray.toList_eq, ByteArray.toList_eq]
  intro e
  apply h
  cases a; cases b
  simpa using e
theorem bytes_eq (a : ByteArray) : (a.toList == a.toList) = true := by simp
def maxB (x y : BitVec 64) : BitVec 64 := if x.toNat < y.toNat then y else x
def errPut (s : SRow) (slot : BitVec 64) (v : ByteArray) : Nat :=
  if slot.toNat = 0 ∨ 4611686018427387904 < slot.toNat then 2
  else if slot.toNat ≤ s.base.toNat then 0
  else match mget s.l slot with | some old => if old = v then 0 else 14 | none => 0
def putS (s : SRow) (slot : BitVec 64) (v : ByteArray) : SRow :=
  if slot.toNat = 0 ∨ 4611686018427387904 < slot.toNat then s
  else if slot.toNat ≤ s.base.toNat then s
  else if (mget s.l slot).any (fun old => decide (old ≠ v)) then s
  else { s with l := mput s.l slot v, last := maxB s.last slot }

theorem look_slot {w : World} {R B : Nat} {s : SRow} (h : RowAt w R B s) (slot : BitVec 64) (ok : Bool) :
    (Instr.lookup 42 (.map (some B)) (.int .u64 (slot.toNat : Int)) ok).run Try.prog w = .ok (if ok then .tuple #[.string ((mget s.l slot).getD ByteArray.empty), .bool (mget s.l slot).isSome] else .string ((mget s.l slot).getD ByteArray.empty)) w := by
  have h1 := run_lookup_at kSlot (P := Try.prog) h.vals Try.underlying42 (zStr w) slot ok
  rw [vl_get] at h1
  have e1 : (Option.map Value.string (mget s.l slot)).getD (.string ByteArray.empty) = .string ((mget s.l slot).getD ByteArray.empty) := by cases mget s.l slot <;> rfl
  have e2 : (Option.map Value.string (mget s.l slot)).isSome = (mget s.l slot).isSome := by cases mget s.l slot <;> rfl
  rw [e1, e2] at h1
  exact h1

/-- Of the old blocks the row's two alone may have been turned. -/
structure Turned (R B : Nat) (w w' : World) : Prop where
  os : w'.os = w.os
  tape : w'.tape = w.tape
  output : w'.output = w.output
  size : w.heap.size ≤ w'.heap.size
  block : ∀ k, k < w.heap.size → k ≠ R → k ≠ B → w'.heap[k]? = w.heap[k]?
theorem Turned.refl (R B : Nat) (w : World) : Turned R B w w := ⟨rfl, rfl, rfl, Nat.le_refl _, fun _ _ _ _ => rfl⟩
theorem Turned.trans {R B : Nat} {a b c : World} (h : Turned R B a b) (k : Turned R B b c) : Turned R B a c :=
  ⟨k.os.trans h.os, k.tape.trans h.tape, k.output.trans h.output, Nat.le_trans h.size k.size, fun i hi h1 h2 => (k.block i (Nat.lt_of_lt_of_le hi h.size) h1 h2).trans (h.block i hi h1 h2)⟩
theorem Turned.grown {R B : Nat} {a b : World} (h : a.grownBy b (some B)) : Turned R B a b := ⟨h.os, h.tape, h.output, h.size, fun k hk _ hB => h.block k hk (by intro e; cases e; exact hB rfl)⟩
theorem Turned.below {R B : Nat} {a b : World} (h : Below a.heap.size a b) : Turned R B a b := ⟨h.os, h.tape, h.output, h.size, fun k hk _ _ => h.block k hk⟩
theorem Turned.set (R B i : Nat) (v : Value) (w : World) : Turned R B w (w.setCell ⟨R, i, none⟩ v) := ⟨rfl, rfl, rfl, by simp [World.setCell], fun _ _ h _ => Below.heap_setCell _ _ _ _ h⟩

set_option maxRecDepth 100000 in
set_option maxHeartbeats 1000000 in
theorem put_any (R B : Nat) (s : SRow) (slot : BitVec 64) (v : ByteArray) (w : World) (h : RowAt w R B s) :
    Calls Try.prog 21 #[.pointer (some ⟨R, 0, none⟩), .int .u64 (slot.toNat : Int), .string v] w fun e w' => e = .returned (.int .i64 (errPut s slot v : Nat)) ∧ RowAt w' R B (putS s slot v) ∧ Turned R B w w' := by
  obtain ⟨c0, c1, c2, c3⟩ := h.cells
  have f2 := h.thawed 2
  have hs := slot.isLt
  by_cases h1 : slot.toNat = 0 ∨ 4611686018427387904 < slot.toNat
  · have e1 : errPut s slot v = 2 := by unfold errPut; rw [if_pos h1]
    have e2 : putS s slot v = s := by unfold putS; rw [if_pos h1]
    rw [e1, e2]
    have Hh := Lib.hid h; clear h e1 e2
    rcases h1 with h1 | h1
    · have h1' : ((slot.toNat : Int) == 0) = true := by rw [h1]; rfl
      clear h1
      go_enter Try.func21, Try.ntmps21
      go_wp2_with fail
      go_ret
      exact ⟨rfl, Hh.out, Turned.refl _ _ _⟩
    · have h1' : ((slot.toNat : Int) == 0) = false := by rw [← Bool.not_eq_true, beq_iff_eq]; omega
      have h2' : (4611686018427387904 : Int) < (slot.toNat : Int) := by omega
      go_enter Try.func21, Try.ntmps21
      go_wp2_with fail
      go_ret
      exact ⟨rfl, Hh.out, Turned.refl _ _ _⟩
  have n1 : ((slot.toNat : Int) == 0) = false := by rw [← Bool.not_eq_true, beq_iff_eq]; omega
  have n2 : ¬ (4611686018427387904 : Int) < (slot.toNat : Int) := by omega
  by_cases h2 : slot.toNat ≤ s.base.toNat
  · have e1 : errPut s slot v = 0 := by unfold errPut; rw [if_neg h1, if_pos h2]
    have e2 : putS s slot v = s := by unfold putS; rw [if_neg h1, if_pos h2]
    rw [e1, e2]
    have Hh := Lib.hid h; clear h e1 e2 h1
    have h2' : (slot.toNat : Int) ≤ (s.base.toNat : Int) := by omega
    go_enter Try.func21, Try.ntmps21
    go_wp2_with fail
    go_ret
    exact ⟨rfl, Hh.out, Turned.refl _ _ _⟩
  have n3 : ¬ (slot.toNat : Int) ≤ (s.base.toNat : Int) := by omega
  have hlook := look_slot h slot true
  have hput : errPut s slot v = 0 → (∀ old, mget s.l slot = some old → old = v) → putS s slot v = { s with l := mput s.l slot v, last := maxB s.last slot } := by
    intro _ h
    unfold putS
    rw [if_neg h1, if_neg h2]
    cases hg : mget s.l slot with
    | none => simp
    | some old => simp [h old hg]
  obtain ⟨w1, hupd, hmap, hgr, hsz⟩ := run_update_at kSlot (P := Try.prog) h.vals Try.underlying42 slot (.string v)
  rw [vl_put] at hmap
  have hne := h.ne
  have hrow1 : RowAt w1 R B { s with l := mput s.l slot v } := ⟨(hgr.block R h.ltR (by intro e; cases e; exact hne rfl)).trans h.blk, hmap⟩
  have hupd' : (Instr.mapUpdate 42 (.map (some B)) (.int .u64 (slot.toNat : Int)) (.string v)).run Try.prog w = .ok () w1 := hupd
  clear hupd hmap
  have hfin : ∀ x : Value, x = .int .u64 ((maxB s.last slot).toNat : Int) → RowAt (w1.setCell ⟨R, 2, none⟩ x) R B { s with l := mput s.l slot v, last := maxB s.last slot } := fun x hx => by
    subst hx
    exact hrow1.set rfl rfl
  obtain ⟨d0, d1, d2, d3⟩ := hrow1.cells
  have g2 := hrow1.thawed 2
  have hT : Turned R B w w1 := Turned.grown hgr
  cases hg : mget s.l slot with
  | none =>
    have e1 : errPut s slot v = 0 := by unfold errPut; rw [if_neg h1, if_neg h2, hg]
    have hput := hput e1 (fun old ho => by rw [hg] at ho; cases ho)
    rw [hput, e1]
    rw [hg] at hlook
    simp only [Option.getD_none, Option.isSome_none, if_true] at hlook
    have Hf := Lib.hid hfin; clear hfin
    have HT := Lib.hid hT; clear hT
    clear hput e1 hg h1 h2 h hrow1 hgr hsz
    by_cases hl : s.last.toNat < slot.toNat
    · have hl' : (s.last.toNat : Int) < (slot.toNat : Int) := by omega
      go_enter Try.func21, Try.ntmps21
      go_wp2_with fail
      go_ret
      exact ⟨rfl, Hf.out _ (by rw [maxB, if_pos hl]), HT.out.trans (Turned.set _ _ _ _ _)⟩
    · have hl' : ¬ (s.last.toNat : Int) < (slot.toNat : Int) := by omega
      go_enter Try.func21, Try.ntmps21
      go_wp2_with fail
      go_ret
      exact ⟨rfl, Hf.out _ (by rw [maxB, if_neg hl]), HT.out.trans (Turned.set _ _ _ _ _)⟩
  | some old =>
    rw [hg] at hlook
    simp only [Option.getD_some, Option.isSome_some, if_true] at hlook
    by_cases ho : old = v
    · subst ho
      have e1 : errPut s slot old = 0 := by unfold errPut; rw [if_neg h1, if_neg h2, hg]; simp
      have hput := hput e1 (fun o ho => by rw [hg] at ho; exact (Option.some.inj ho).symm)
      rw [hput, e1]
      have hsame : (old == old) = true := by rw [MapKept.bytes_beq]
      have hsame' : (old != old) = false := by simp [bne, hsame]
      have Hf := Lib.hid hfin; clear hfin
      have HT := Lib.hid hT; clear hT
      clear hput e1 hg h1 h2 h hrow1 hgr hsz
      by_cases hl : s.last.toNat < slot.toNat
      · have hl' : (s.last.toNat : Int) < (slot.toNat : Int) := by omega
        go_enter Try.func21, Try.ntmps21
        go_wp2_with fail
        go_ret
        exact ⟨rfl, Hf.out _ (by rw [maxB, if_pos hl]), HT.out.trans (Turned.set _ _ _ _ _)⟩
      · have hl' : ¬ (s.last.toNat : Int) < (slot.toNat : Int) := by omega
        go_enter Try.func21, Try.ntmps21
        go_wp2_with fail
        go_ret
        exact ⟨rfl, Hf.out _ (by rw [maxB, if_neg hl]), HT.out.trans (Turned.set _ _ _ _ _)⟩

    · have e1 : errPut s slot v = 14 := by unfold errPut; rw [if_neg h1, if_neg h2, hg]; simp [ho]
      have e2 : putS s slot v = s := by unfold putS; rw [if_neg h1, if_neg h2, hg]; simp [ho]
      rw [e1, e2]
      have hsame := bytes_ne ho
      have Hh := Lib.hid h
      clear h e1 e2 h1 h2 hg hput hupd' hfin hrow1 hgr hsz hT ho d0 d1 d2 d3 g2
      go_enter Try.func21, Try.ntmps21
      go_wp2_with fail
      go_ret
      exact ⟨rfl, Hh.out, Turned.refl _ _ _⟩
end Go.Proofs.Ytimhpncdlaildaa
