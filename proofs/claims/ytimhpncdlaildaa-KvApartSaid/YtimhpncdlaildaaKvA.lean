/- Commands: what each kind has; Check. No condition. -/
import Derived.Test.YtimhpncdlaildaaTrD
import Derived.Test.YtimhpncdlaildaaRegG
import Derived.Test.YtimhpncdlaildaaMap
namespace Go.Proofs.Ytimhpncdlaildaa
open Go.RowKit

/-- A command. -/
structure CmdV where
  client : BitVec 8
  seq : BitVec 32
  kind : UInt8
  key : ByteArray
  old : ByteArray
  fresh : ByteArray
  set : BitVec 8
instance : Inhabited CmdV := ⟨⟨0#8, 0#32, 0, ByteArray.empty, ByteArray.empty, ByteArray.empty, 0#8⟩⟩
def cmdCells (c : CmdV) : List Value := [.int .u8 (c.client.toNat : Int), .int .u32 (c.seq.toNat : Int), .int .u8 (c.kind.toNat : Int), .string c.key, .string c.old, .string c.fresh, .int .u8 (c.set.toNat : Int)]
/-- What a command of a kind has: bits; if there is such a kind. -/
def hasOf (k : UInt8) : Option Nat := if k = 1 then some 1 else if k = 2 then some 5 else if k = 3 then some 1 else if k = 4 then some 7 else if k = 5 then some 8 else none
def mostOf (has part n : Nat) : Nat := if has &&& part = 0 then 0 else n
/-- May a command be? -/
def mayC (c : CmdV) : Bool :=
  (hasOf c.kind).isSome && decide (c.client.toNat < 4) && decide (c.seq.toNat ≠ 0) && decide (mostOf ((hasOf c.kind).getD 0) 1 1 ≤ c.key.size) && decide (c.key.size ≤ mostOf ((hasOf c.kind).getD 0) 1 16) &&
    decide (c.old.size ≤ mostOf ((hasOf c.kind).getD 0) 2 64) && decide (c.fresh.size ≤ mostOf ((hasOf c.kind).getD 0) 4 64) && (decide (c.set.toNat = 0) || decide ((hasOf c.kind).getD 0 &&& 8 ≠ 0))

noncomputable def kKind : KeyEnc Try.prog 5 UInt8 := keyU8 Try.prog 5 Try.underlying5
def kindsL : List (UInt8 × Value) := [(1, .int .u8 1), (2, .int .u8 5), (3, .int .u8 1), (4, .int .u8 7), (5, .int .u8 8)]
theorem kinds_get (k : UInt8) : mget kindsL k = (hasOf k).map (fun (n : Nat) => Value.int .u8 (n : Int)) := by
  unfold hasOf mget kindsL
  by_cases h1 : k = 1
  · subst h1; rfl
  by_cases h2 : k = 2
  · subst h2; rfl
  by_cases h3 : k = 3
  · subst h3; rfl
  by_cases h4 : k = 4
  · subst h4; rfl
  by_cases h5 : k = 5
  · subst h5; rfl
  simp [h1, h2, h3, h4, h5, eq_comm]

set_option maxRecDepth 100000 in
set_option maxHeartbeats 2000000 in
theorem kinds_any (w : World) : Calls Try.prog 89 #[] w fun e w' => e = .returned (.map (some w.heap.size)) ∧ MapAt kKind w' w.heap.size kindsL ∧ Below w.heap.size w w' := by
  have hm0 := MapAt.made kKind w
  have hb0 : Below w.heap.size w (w.alloc (.map #[] 0)) := (Below.refl _ _).alloc (Nat.le_refl _) _
  generalize hw0 : w.alloc (.map #[] 0) = w0 at *
  have hb : ∀ {x y : World}, Below w.heap.size w x → x.grownBy y (some w.heap.size) → Below w.heap.size w y := fun {x y} h g =>
    ⟨g.os.trans h.os, g.tape.trans h.tape, g.output.trans h.output, Nat.le_trans h.size g.size, fun q hq => (g.block q (Nat.lt_of_lt_of_le hq h.size) (fun e => by cases e; omega)).trans (h.block q hq)⟩
  obtain ⟨w1, hu1, hm1, hg1, _⟩ := run_update_at kKind hm0 Try.underlying143 1 (.int .u8 1)
  obtain ⟨w2, hu2, hm2, hg2, _⟩ := run_update_at kKind hm1 Try.underlying143 2 (.int .u8 5)
  obtain ⟨w3, hu3, hm3, hg3, _⟩ := run_update_at kKind hm2 Try.underlying143 3 (.int .u8 1)
  obtain ⟨w4, hu4, hm4, hg4, _⟩ := run_update_at kKind hm3 Try.underlying143 4 (.int .u8 7)
  obtain ⟨w5, hu5, hm5, hg5, _⟩ := run_update_at kKind hm4 Try.underlying143 5 (.int .u8 8)
  have Hend := Lib.hid (And.intro (show MapAt kKind w5 w.heap.size kindsL from hm5) (hb (hb (hb (hb (hb hb0 hg1) hg2) hg3) hg4) hg5))
  clear hm0 hb0 hb hm1 hm2 hm3 hm4 hm5 hg1 hg2 hg3 hg4 hg5
  have hv1 : (Instr.mapUpdate 143 (.map (some w.heap.size)) (.int .u8 1) (.int .u8 1)).run Try.prog w0 = .ok () w1 := hu1
  have hv2 : (Instr.mapUpdate 143 (.map (some w.heap.size)) (.int .u8 2) (.int .u8 5)).run Try.prog w1 = .ok () w2 := hu2
  have hv3 : (Instr.mapUpdate 143 (.map (some w.heap.size)) (.int .u8 3) (.int .u8 1)).run Try.prog w2 = .ok () w3 := hu3
  have hv4 : (Instr.mapUpdate 143 (.map (some w.heap.size)) (.int .u8 4) (.int .u8 7)).run Try.prog w3 = .ok () w4 := hu4
  have hv5 : (Instr.mapUpdate 143 (.map (some w.heap.size)) (.int .u8 5) (.int .u8 8)).run Try.prog w4 = .ok () w5 := hu5
  clear hu1 hu2 hu3 hu4 hu5
  have hmm := @run_makeMap Try.prog
  go_enter Try.func89, Try.ntmps89
  go_wp2_with fail
  go_ret
  exact ⟨rfl, Hend.out⟩

set_option maxHeartbeats 2000000 in
theorem most_any (b hv part n : Nat) (w : World) (hh : hv = 0 ∨ hv = 1 ∨ hv = 5 ∨ hv = 7 ∨ hv = 8) (hp : part = 1 ∨ part = 2 ∨ part = 4) (hb : w.cell? ⟨b, 0, none⟩ = some (.int .u8 (hv : Int))) :
    Calls Try.prog 90 #[.int .u8 (part : Int), .int .i64 (n : Int), .pointer (some ⟨b, 0, none⟩)] w fun e w' => e = .returned (.int .i64 (mostOf hv part n : Int)) ∧ w = w' := by
  rcases hh with rfl | rfl | rfl | rfl | rfl <;> rcases hp with rfl | rfl | rfl <;>
  · go_enter Try.func90, Try.ntmps90
    go_wp2_with fail
    go_ret
    exact ⟨rfl, rfl⟩
theorem has_vals (k : UInt8) : (hasOf k).getD 0 = 0 ∨ (hasOf k).getD 0 = 1 ∨ (hasOf k).getD 0 = 5 ∨ (hasOf k).getD 0 = 7 ∨ (hasOf k).getD 0 = 8 := by
  unfold hasOf
  repeat' split
  all_goals simp

/-- A box that holds a command. -/
def CmdAt (w : World) (g : Nat) (c : CmdV) : Prop := w.heap[g]? = some (.cells (cmdCells c).toArray 103 (0, 0))
section
variable {w w' : World} {g : Nat} {c : CmdV}
theorem CmdAt.new (w : World) (c : CmdV) : CmdAt (w.alloc (.cells (cmdCells c).toArray 103)) w.heap.size c := heap_alloc_new w _
theorem CmdAt.lt (h : CmdAt w g c) : g < w.heap.size := (Array.getElem?_eq_some_iff.1 h).1
theorem CmdAt.below (h : CmdAt w g c) (hb : Below w.heap.size w w') : CmdAt w' g c := (hb.block g h.lt).trans h
theorem CmdAt.cells (h : CmdAt w g c) : w.cell? ⟨g, 0, none⟩ = some (.int .u8 (c.client.toNat : Int)) ∧ w.cell? ⟨g, 1, none⟩ = some (.int .u32 (c.seq.toNat : Int)) ∧ w.cell? ⟨g, 2, none⟩ = some (.int .u8 (c.kind.toNat : Int)) ∧
    w.cell? ⟨g, 3, none⟩ = some (.string c.key) ∧ w.cell? ⟨g, 4, none⟩ = some (.string c.old) ∧ w.cell? ⟨g, 5, none⟩ = some (.string c.fresh) ∧ w.cell? ⟨g, 6, none⟩ = some (.int .u8 (c.set.toNat : Int)) :=
  ⟨cell_of_row _ _ _ _ _ _ h, cell_of_row _ _ _ _ _ _ h, cell_of_row _ _ _ _ _ _ h, cell_of_row _ _ _ _ _ _ h, cell_of_row _ _ _ _ _ _ h, cell_of_row _ _ _ _ _ _ h, cell_of_row _ _ _ _ _ _ h⟩
end
end Go.Proofs.Ytimhpncdlaildaa
