/- The state of keys: what the laws call beside Do: of, Tree, Great. Condition of Tree's: none. -/
import Derived.Test.YtimhpncdlaildaaKvD
import Derived.Test.YtimhpncdlaildaaOpen
namespace Go.Proofs.Ytimhpncdlaildaa
open Go.RowKit

/-- The command that 'of' makes. -/
def ofC (k : UInt8) (key old fresh : ByteArray) : CmdV := ⟨0#8, 1#32, k, key, old, fresh, 0#8⟩

theorem rowSet {w : World} {b : Nat} {cs : Array Value} {t : TypeId} (h : w.heap[b]? = some (.cells cs t (0, 0))) (i : Nat) (x : Value) : (w.setCell ⟨b, i, none⟩ x).heap[b]? = some (.cells (cs.setIfInBounds i x) t (0, 0)) := heap_setCell_same _ _ _ _ _ _ h
theorem CmdAt.thawed {w : World} {b : Nat} {c : CmdV} (h : CmdAt w b c) (j : Nat) : w.frozen? ⟨b, j, none⟩ = false := by
  unfold CmdAt at h
  simp [World.frozen?, h]

set_option maxRecDepth 100000 in
set_option maxHeartbeats 2000000 in
theorem of_any (k : UInt8) (key old fresh : ByteArray) (w : World) :
    Calls Try.prog 53 #[.int .u8 (k.toNat : Int), .string key, .string old, .string fresh] w fun e w' => e = .returned (.agg (cmdCells (ofC k key old fresh)).toArray) ∧ Below w.heap.size w w' := by
  obtain ⟨n, hn⟩ : ∃ n : Int, (k.toNat : Int) = n := ⟨_, rfl⟩
  have h1 : CmdAt (w.alloc (.cells (cmdCells ⟨0#8, 0#32, 0, ByteArray.empty, ByteArray.empty, ByteArray.empty, 0#8⟩).toArray 103)) w.heap.size ⟨0#8, 0#32, 0, ByteArray.empty, ByteArray.empty, ByteArray.empty, 0#8⟩ := CmdAt.new w _
  have hb1 := (Below.refl w.heap.size w).alloc (Nat.le_refl _) (.cells (cmdCells ⟨0#8, 0#32, 0, ByteArray.empty, ByteArray.empty, ByteArray.empty, 0#8⟩).toArray 103)
  rw [show cmdCells (ofC k key old fresh) = [.int .u8 0, .int .u32 1, .int .u8 n, .string key, .string old, .string fresh, .int .u8 0] by rw [← hn]; rfl]
  rw [hn]
  have Hn := Lib.hid hn; clear hn
  go_enter Try.func53, Try.ntmps53
  go_upto_region 1 with fail
  change Code.wp _ _ _ _ (w.alloc (.cells (cmdCells ⟨0#8, 0#32, 0, ByteArray.empty, ByteArray.empty, ByteArray.empty, 0#8⟩).toArray 103))
  generalize w.alloc (.cells (cmdCells ⟨0#8, 0#32, 0, ByteArray.empty, ByteArray.empty, ByteArray.empty, 0#8⟩).toArray 103) = w1 at *
  have H1 := Lib.hid h1; clear h1
  have Hb := Lib.hid hb1; clear hb1
  obtain ⟨d0, d1, d2, d3, d4, d5, d6⟩ := H1.out.cells
  have t0 : ∀ j, w1.frozen? ⟨w.heap.size, j, none⟩ = false := fun j => CmdAt.thawed H1.out j
  have t0' := t0 0
  have t1' := t0 1
  have t2' := t0 2
  have t3' := t0 3
  have t4' := t0 4
  have t5' := t0 5
  have t6' := t0 6
  go_wp2_with fail
  change bodyPost _ _ _ _ _ (((((((w1.setCell ⟨w.heap.size, 0, none⟩ (.int .u8 0)).setCell ⟨w.heap.size, 1, none⟩ (.int .u32 1)).setCell ⟨w.heap.size, 2, none⟩ (.int .u8 n)).setCell ⟨w.heap.size, 3, none⟩ (.string key)).setCell ⟨w.heap.size, 4, none⟩ (.string old)).setCell ⟨w.heap.size, 5, none⟩ (.string fresh)).setCell ⟨w.heap.size, 6, none⟩ (.int .u8 0))
  have r7 := rowSet (rowSet (rowSet (rowSet (rowSet (rowSet (rowSet H1.out 0 (.int .u8 0)) 1 (.int .u32 1)) 2 (.int .u8 n)) 3 (.string key)) 4 (.string old)) 5 (.string fresh)) 6 (.int .u8 0)
  have hb9 := below_setV (b := w.heap.size) (i := 6) (x := .int .u8 0) (below_setV (b := w.heap.size) (i := 5) (x := .string fresh) (below_setV (b := w.heap.size) (i := 4) (x := .string old) (below_setV (b := w.heap.size) (i := 3) (x := .string key) (below_setV (b := w.heap.size) (i := 2) (x := .int .u8 n) (below_setV (b := w.heap.size) (i := 1) (x := .int .u32 1) (below_setV (b := w.heap.size) (i := 0) (x := .int .u8 0) Hb.out (Nat.le_refl _)) (Nat.le_refl _)) (Nat.le_refl _)) (Nat.le_refl _)) (Nat.le_refl _)) (Nat.le_refl _)) (Nat.le_refl _)
  clear d0 d1 d2 d3 d4 d5 d6 t0 t0' t1' t2' t3' t4' t5' t6'
  generalize ((((((w1.setCell ⟨w.heap.size, 0, none⟩ (.int .u8 0)).setCell ⟨w.heap.size, 1, none⟩ (.int .u32 1)).setCell ⟨w.heap.size, 2, none⟩ (.int .u8 n)).setCell ⟨w.heap.size, 3, none⟩ (.string key)).setCell ⟨w.heap.size, 4, none⟩ (.string old)).setCell ⟨w.heap.size, 5, none⟩ (.string fresh)).setCell ⟨w.heap.size, 6, none⟩ (.int .u8 0) = w9 at *
  have e7 : w9.heap[w.heap.size]? = some (.cells #[.int .u8 0, .int .u32 1, .int .u8 n, .string key, .string old, .string fresh, .int .u8 0] 103 (0, 0)) := r7
  have e0 : w9.cell? ⟨w.heap.size, 0, none⟩ = some (.int .u8 0) := cell_of_row _ _ _ _ _ _ e7
  have e1 : w9.cell? ⟨w.heap.size, 1, none⟩ = some (.int .u32 1) := cell_of_row _ _ _ _ _ _ e7
  have e2 : w9.cell? ⟨w.heap.size, 2, none⟩ = some (.int .u8 n) := cell_of_row _ _ _ _ _ _ e7
  have e3 : w9.cell? ⟨w.heap.size, 3, none⟩ = some (.string key) := cell_of_row _ _ _ _ _ _ e7
  have e4 : w9.cell? ⟨w.heap.size, 4, none⟩ = some (.string old) := cell_of_row _ _ _ _ _ _ e7
  have e5 : w9.cell? ⟨w.heap.size, 5, none⟩ = some (.string fresh) := cell_of_row _ _ _ _ _ _ e7
  have e6 : w9.cell? ⟨w.heap.size, 6, none⟩ = some (.int .u8 0) := cell_of_row _ _ _ _ _ _ e7
  refine bodyPost_ret (v := .agg #[.int .u8 0, .int .u32 1, .int .u8 n, .string key, .string old, .string fresh, .int .u8 0]) (by simp [results, Try.results53, go_sem, e0, e1, e2, e3, e4, e5, e6] <;> rfl) rfl ?_
  exact ⟨rfl, hb9⟩

set_option maxRecDepth 100000 in
theorem tree_any (P : Option Addr) (w : World) : Calls Try.prog 54 #[.agg #[.pointer P]] w fun e w' => e = .returned (.pointer P) ∧ Below w.heap.size w w' := by
  have hb1 := (Below.refl w.heap.size w).alloc (Nat.le_refl _) (.cells #[.pointer P] 96)
  have h1 := VarAt.new w (.pointer P) 96
  go_enter Try.func54, Try.ntmps54
  go_upto_region 1 with fail
  change Code.wp _ _ _ _ (w.alloc (.cells #[.pointer P] 96))
  generalize w.alloc (.cells #[.pointer P] 96) = w1 at *
  have c0 := h1.cell
  go_wp2_with fail
  go_ret
  exact ⟨rfl, hb1⟩
end Go.Proofs.Ytimhpncdlaildaa
