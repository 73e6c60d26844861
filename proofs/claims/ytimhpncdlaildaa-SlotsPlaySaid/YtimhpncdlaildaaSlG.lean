/- The law SlotsNil: no row. No condition. -/
import Derived.Test.YtimhpncdlaildaaSlF
namespace Go.Proofs.Ytimhpncdlaildaa
open Go.RowKit

set_option maxRecDepth 100000 in
set_option maxHeartbeats 2000000 in
theorem slotsNil_any (a b c : Value) (w : World) : Calls Try.prog 6 #[a, b, c] w fun e w' => e = .returned (.bool true) ∧ Below w.heap.size w w' := by
  go_enter Try.func6, Try.ntmps6
  go_wp2_with fail
  refine (next_nil w).mono ?_
  rintro e w1 ⟨rfl, hb⟩
  go_wp2_with fail
  have hx := ItemAt.new w1 0 ByteArray.empty
  have hb2 := hb.alloc hb.size (.cells #[.int .u64 0, .string ByteArray.empty] 33)
  obtain ⟨hx0, hx1⟩ := ItemAt.cells hx
  clear hx hb
  generalize w1.alloc (.cells #[.int .u64 0, .string ByteArray.empty] 33) = w2 at *
  generalize w1.heap.size = bx at *
  go_wp2_with (first
    | ((with_reducible refine (get_nil _ _).mono ?_); rintro e w' ⟨rfl, rfl⟩)
    | ((with_reducible refine (put_nil _ _ _).mono ?_); rintro e w' ⟨rfl, rfl⟩)
    | ((with_reducible refine (keep_nil _ _).mono ?_); rintro e w' ⟨rfl, rfl⟩)
    | ((with_reducible refine (jump_nil _ _).mono ?_); rintro e w' ⟨rfl, rfl⟩)
    | ((with_reducible refine (items_nil _ _ _).mono ?_); rintro e w' ⟨rfl, rfl⟩)
    | ((with_reducible refine (base_nil _).mono ?_); rintro e w' ⟨rfl, rfl⟩)
    | ((with_reducible refine (top_nil _).mono ?_); rintro e w' ⟨rfl, rfl⟩)
    | ((with_reducible refine (last_nil _).mono ?_); rintro e w' ⟨rfl, rfl⟩))
  refine (slWakes_any w2).mono ?_
  rintro e w3 ⟨rfl, hw⟩
  go_wp2_with fail
  go_ret
  exact ⟨rfl, hb2.trans (hw.mono hb2.size)⟩
theorem slotsNil_law (x : Int) (y : ByteArray) (z : Int) {p q r : Prop} (_ : p) (_ : q) (_ : r) (w : World) : Calls Try.prog 6 #[.int .u64 x, .string y, .int .i64 z] w fun e w' => e = .returned (.bool true) ∧ Below w.heap.size w w' := slotsNil_any _ _ _ w
end Go.Proofs.Ytimhpncdlaildaa
