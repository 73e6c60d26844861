/- The row of slots: no row; what is known of a row that wakes builds. No condition. -/
import Derived.Test.YtimhpncdlaildaaSlD
namespace Go.Proofs.Ytimhpncdlaildaa
open Go.RowKit

set_option maxHeartbeats 400000 in
theorem put_nil (a b : Value) (w : World) : Calls Try.prog 21 #[.pointer none, a, b] w fun e w' => e = .returned (.int .i64 1) ∧ w = w' := by
  go_enter Try.func21, Try.ntmps21
  go_wp2_with fail
  go_ret
  exact ⟨rfl, rfl⟩
set_option maxHeartbeats 400000 in
theorem keep_nil (a : Value) (w : World) : Calls Try.prog 20 #[.pointer none, a] w fun e w' => e = .returned (.int .i64 1) ∧ w = w' := by
  go_enter Try.func20, Try.ntmps20
  go_wp2_with fail
  go_ret
  exact ⟨rfl, rfl⟩
set_option maxHeartbeats 400000 in
theorem jump_nil (a : Value) (w : World) : Calls Try.prog 25 #[.pointer none, a] w fun e w' => e = .returned (.int .i64 1) ∧ w = w' := by
  go_enter Try.func25, Try.ntmps25
  go_wp2_with fail
  go_ret
  exact ⟨rfl, rfl⟩
set_option maxHeartbeats 400000 in
theorem next_nil (w : World) : Calls Try.prog 19 #[.pointer none] w fun e w' => e = .returned (.tuple #[.agg #[.int .u64 0, .string ByteArray.empty], .bool false]) ∧ Below w.heap.size w w' := by
  go_enter Try.func19, Try.ntmps19
  go_wp2_with fail
  refine bodyPost_ret (v := .tuple #[.agg #[.int .u64 0, .string ByteArray.empty], .bool false]) (by simp [results, Try.results19, go_sem] <;> rfl) rfl ?_
  exact ⟨rfl, (Below.refl _ _).alloc (Nat.le_refl _) _⟩
set_option maxHeartbeats 400000 in
theorem get_nil (a : Value) (w : World) : Calls Try.prog 31 #[.pointer none, a] w fun e w' => e = .returned (.tuple #[.string ByteArray.empty, .bool false]) ∧ w = w' := by
  go_enter Try.func31, Try.ntmps31
  go_wp2_with fail
  go_ret2
  exact ⟨rfl, rfl⟩
set_option maxHeartbeats 400000 in
theorem items_nil (a b : Value) (w : World) : Calls Try.prog 22 #[.pointer none, a, b] w fun e w' => e = .returned (.slice none 0 0) ∧ w = w' := by
  go_enter Try.func22, Try.ntmps22
  go_wp2_with fail
  go_ret
  exact ⟨rfl, rfl⟩
set_option maxHeartbeats 400000 in
theorem base_nil (w : World) : Calls Try.prog 24 #[.pointer none] w fun e w' => e = .returned (.int .u64 0) ∧ w = w' := by
  go_enter Try.func24, Try.ntmps24
  go_wp2_with fail
  go_ret
  exact ⟨rfl, rfl⟩
set_option maxHeartbeats 400000 in
theorem top_nil (w : World) : Calls Try.prog 23 #[.pointer none] w fun e w' => e = .returned (.int .u64 0) ∧ w = w' := by
  go_enter Try.func23, Try.ntmps23
  go_wp2_with fail
  go_ret
  exact ⟨rfl, rfl⟩
set_option maxHeartbeats 400000 in
theorem last_nil (w : World) : Calls Try.prog 26 #[.pointer none] w fun e w' => e = .returned (.int .u64 0) ∧ w = w' := by
  go_enter Try.func26, Try.ntmps26
  go_wp2_with fail
  go_ret
  exact ⟨rfl, rfl⟩

/-- A row of the call's own, in a world that has grown out of w0. -/
structure RowIn (w0 w : World) (R B : Nat) (s : SRow) : Prop where
  row : RowAt w R B s
  bel : Below w0.heap.size w0 w
  hR : w0.heap.size ≤ R
  hB : w0.heap.size ≤ B

theorem RowIn.turn {w0 w w' : World} {R B : Nat} {s s' : SRow} (h : RowIn w0 w R B s) (hr : RowAt w' R B s') (ht : Turned R B w w') : RowIn w0 w' R B s' :=
  ⟨hr, ⟨ht.os.trans h.bel.os, ht.tape.trans h.bel.tape, ht.output.trans h.bel.output, Nat.le_trans h.bel.size ht.size, fun k hk => by
    have h1 := h.hR; have h2 := h.hB; have h3 := h.bel.size
    exact (ht.block k (by omega) (by omega) (by omega)).trans (h.bel.block k hk)⟩, h.hR, h.hB⟩
theorem RowIn.below {w0 w w' : World} {R B : Nat} {s : SRow} (h : RowIn w0 w R B s) (hb : Below w.heap.size w w') : RowIn w0 w' R B s :=
  ⟨h.row.below hb, h.bel.trans (hb.mono h.bel.size), h.hR, h.hB⟩
theorem RowIn.alloc {w0 w : World} {R B : Nat} {s : SRow} (h : RowIn w0 w R B s) (o : Obj) : RowIn w0 (w.alloc o) R B s := h.below ((Below.refl _ _).alloc (Nat.le_refl _) _)
theorem RowIn.drew {w0 w : World} {R B : Nat} {s : SRow} (h : RowIn w0 w R B s) : RowIn w0 w.drew R B s := h.below (below_drewN w 1)

def bytesB : ByteArray := ⟨#[98]⟩
def bytesA : ByteArray := ⟨#[97]⟩
def bytesC : ByteArray := ⟨#[99]⟩
def w1S : SRow := ⟨0#64, 0#64, 2#64, [(2#64, bytesB)]⟩
def w2S : SRow := ⟨0#64, 0#64, 2#64, [(2#64, bytesB), (1#64, bytesA)]⟩
def w3S : SRow := ⟨0#64, 1#64, 2#64, [(2#64, bytesB), (1#64, bytesA)]⟩
def w4S : SRow := ⟨0#64, 2#64, 2#64, [(2#64, bytesB), (1#64, bytesA)]⟩
theorem wk1 : putS ⟨0#64, 0#64, 0#64, []⟩ 2#64 bytesB = w1S ∧ errPut ⟨0#64, 0#64, 0#64, []⟩ 2#64 bytesB = 0 := ⟨rfl, rfl⟩
theorem wk2 : nextS w1S = w1S ∧ nextV w1S = .tuple #[.agg #[.int .u64 0, .string ByteArray.empty], .bool false] := ⟨rfl, rfl⟩
theorem wk3 : putS w1S 1#64 bytesA = w2S ∧ errPut w1S 1#64 bytesA = 0 := ⟨rfl, rfl⟩
theorem wk4 : nextS w2S = w3S ∧ nextV w2S = .tuple #[.agg #[.int .u64 1, .string bytesA], .bool true] := ⟨rfl, rfl⟩
theorem wk5 : nextS w3S = w4S ∧ nextV w3S = .tuple #[.agg #[.int .u64 2, .string bytesB], .bool true] := ⟨rfl, rfl⟩
theorem wk6 : putS w4S 2#64 bytesC = w4S ∧ errPut w4S 2#64 bytesC = 14 := ⟨rfl, rfl⟩
theorem wk7 : itemsCount w4S 0#64 9 = 2 := rfl
theorem wk8 : errKeep w4S 1#64 = 0 ∧ (keepS w4S 1#64).base = 1#64 ∧ (keepS w4S 1#64).top = 2#64 := ⟨rfl, rfl, rfl⟩
end Go.Proofs.Ytimhpncdlaildaa
