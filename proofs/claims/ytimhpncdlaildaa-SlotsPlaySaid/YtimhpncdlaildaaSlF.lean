/- The law's wakes: the row that is known. No condition. -/
import Derived.Test.YtimhpncdlaildaaSlE
namespace Go.Proofs.Ytimhpncdlaildaa
open Go.RowKit

theorem put_in {w0 w : World} {R B : Nat} {s s' : SRow} {slot : BitVec 64} {v : ByteArray} {n : Nat} (h : RowIn w0 w R B s) (hs : putS s slot v = s') (hn : errPut s slot v = n) :
    Calls Try.prog 21 #[.pointer (some ⟨R, 0, none⟩), .int .u64 (slot.toNat : Int), .string v] w fun e w' => e = .returned (.int .i64 (n : Int)) ∧ RowIn w0 w' R B s' ∧ Turned R B w w' := by
  subst hs; subst hn
  exact (put_any R B s slot v w h.row).mono fun e w' ⟨h1, h2, h3⟩ => ⟨h1, h.turn h2 h3, h3⟩
theorem next_in {w0 w : World} {R B : Nat} {s s' : SRow} {v : Value} (h : RowIn w0 w R B s) (hs : nextS s = s') (hn : nextV s = v) :
    Calls Try.prog 19 #[.pointer (some ⟨R, 0, none⟩)] w fun e w' => e = .returned v ∧ RowIn w0 w' R B s' ∧ Turned R B w w' := by
  subst hs; subst hn
  exact (next_any R B s w h.row).mono fun e w' ⟨h1, h2, h3⟩ => ⟨h1, h.turn h2 h3, h3⟩
theorem keep_in {w0 w : World} {R B : Nat} {s s' : SRow} {slot : BitVec 64} {n : Nat} (h : RowIn w0 w R B s) (hs : keepS s slot = s') (hn : errKeep s slot = n) :
    Calls Try.prog 20 #[.pointer (some ⟨R, 0, none⟩), .int .u64 (slot.toNat : Int)] w fun e w' => e = .returned (.int .i64 (n : Int)) ∧ RowIn w0 w' R B s' ∧ Turned R B w w' := by
  subst hs; subst hn
  exact (keep_any R B s slot w h.row).mono fun e w' ⟨h1, h2, h3⟩ => ⟨h1, h.turn h2 h3, h3⟩

theorem infoItem1 : (Try.prog.info? 33).map (·.size) = some 2 := by kernel_rfl
/-- An item that lies in a block of its own. -/
def ItemAt (w : World) (b : Nat) (x : Int) (v : ByteArray) : Prop := w.heap[b]? = some (.cells #[.int .u64 x, .string v] 33 (0, 0))
theorem ItemAt.lt {w : World} {b : Nat} {x : Int} {v : ByteArray} (h : ItemAt w b x v) : b < w.heap.size := (Array.getElem?_eq_some_iff.1 h).1
theorem ItemAt.turn {w0 w w' : World} {b R B : Nat} {x : Int} {v : ByteArray} {s : SRow} (h : ItemAt w b x v) (hr : RowIn w0 w R B s) (ht : Turned R B w w') : ItemAt w' b x v := by
  refine (ht.block b h.lt ?_ ?_).trans h
  · intro e
    have h1 := hr.row.blk
    unfold ItemAt at h
    rw [← e, h] at h1
    cases h1
  · intro e
    obtain ⟨es, c, h1, _⟩ := hr.row.vals
    unfold ItemAt at h
    rw [← e, h] at h1
    cases h1
theorem ItemAt.below {w w' : World} {b : Nat} {x : Int} {v : ByteArray} (h : ItemAt w b x v) (hb : Below w.heap.size w w') : ItemAt w' b x v := (hb.block b h.lt).trans h
theorem ItemAt.alloc {w : World} {b : Nat} {x : Int} {v : ByteArray} (h : ItemAt w b x v) (o : Obj) : ItemAt (w.alloc o) b x v := h.below ((Below.refl _ _).alloc (Nat.le_refl _) _)
theorem ItemAt.new (w : World) (x : Int) (v : ByteArray) : ItemAt (w.alloc (.cells #[.int .u64 x, .string v] 33)) w.heap.size x v := heap_alloc_new w _
theorem ItemAt.cells {w : World} {b : Nat} {x : Int} {v : ByteArray} (h : ItemAt w b x v) : w.cell? ⟨b, 0, none⟩ = some (.int .u64 x) ∧ w.cell? ⟨b, 1, none⟩ = some (.string v) :=
  ⟨cell_of_row _ _ _ _ _ _ h, cell_of_row _ _ _ _ _ _ h⟩

set_option maxRecDepth 100000 in
set_option maxHeartbeats 2000000 in
theorem slWakes_any (w : World) : Calls Try.prog 17 #[] w fun e w' => e = .returned (.bool true) ∧ Below w.heap.size w w' := by
  go_enter Try.func17, Try.ntmps17
  go_wp2_with fail
  refine (new_any 0#64 (by decide) w).mono ?_
  rintro e w1 ⟨R, B, rfl, hr, hb, hR, hB⟩
  have h0 : RowIn w w1 R B ⟨0#64, 0#64, 0#64, []⟩ := ⟨hr, hb, hR, hB⟩
  clear hr hb hR hB
  go_wp2_with fail
  refine (put_in (slot := 2#64) h0 wk1.1 wk1.2).mono ?_
  clear h0
  rintro e w2 ⟨rfl, h0, _⟩
  go_wp2_with fail
  refine (next_in h0 wk2.1 wk2.2).mono ?_
  clear h0
  rintro e w3 ⟨rfl, h0, _⟩
  go_wp2_with fail
  refine (put_in (slot := 1#64) (h0.alloc _) wk3.1 wk3.2).mono ?_
  clear h0
  rintro e w4 ⟨rfl, h0, _⟩
  go_wp2_with fail
  refine (next_in h0 wk4.1 wk4.2).mono ?_
  clear h0
  rintro e w5 ⟨rfl, h0, _⟩
  have hx := ItemAt.new w5 1 bytesA
  go_wp2_with fail
  have ht5 := next_in (h0.alloc (.cells #[.int .u64 1, .string bytesA] 33)) wk5.1 wk5.2
  refine ht5.mono ?_
  rintro e w6 ⟨rfl, h6, ht⟩
  have hx6 := hx.turn (h0.alloc _) ht
  have hlt6 := hx6.lt
  clear hx ht h0 ht5
  have hy := ItemAt.new w6 2 bytesB
  have hx7 := hx6.alloc (.cells #[.int .u64 2, .string bytesB] 33)
  generalize w5.heap.size = bx at *
  go_wp2_with fail
  have ht6 := put_in (slot := 2#64) (v := bytesC) (h6.alloc (.cells #[.int .u64 2, .string bytesB] 33)) wk6.1 wk6.2
  refine ht6.mono ?_
  rintro e w8 ⟨rfl, h8, ht⟩
  have hx8 := hx7.turn (h6.alloc _) ht
  have hy8 := hy.turn (h6.alloc _) ht
  clear hx7 hy ht h6 ht6 hx6
  generalize w6.heap.size = by_ at *
  go_wp2_with fail
  refine (items_any R B w4S 0#64 9 (by decide) (by decide) (by decide) (by decide) w8 h8.row).mono ?_
  rintro e w9 ⟨v, rfl, hv, hb9⟩
  rw [wk7] at hv
  obtain ⟨A, c, rfl⟩ := own_slice hv
  have h9 := h8.below hb9
  obtain ⟨hx90, hx91⟩ := ItemAt.cells (hx8.below hb9)
  have hy9 := (ItemAt.cells (hy8.below hb9)).1
  clear hv hb9 h8 hx8 hy8
  have H9 := Lib.hid h9; clear h9
  have ht := (top_any R B w4S w9 H9.out.row)
  have hk := (keep_in H9.out rfl rfl : Calls _ _ #[.pointer (some ⟨R, 0, none⟩), .int .u64 ((1#64).toNat : Int)] w9 _)
  have e1 : bytesA.toList = [97] := ByteArray.toList_eq bytesA
  have e2 : w4S.top.toNat = 2 := rfl
  have e3 : ((keepS w4S 1#64).base.toNat) = 1 := rfl
  go_wp2_with fail
  refine ht.mono ?_
  clear ht
  rintro e w10 ⟨rfl, rfl⟩
  rw [e2]
  go_wp2_with fail
  refine hk.mono ?_
  clear hk
  rintro e w10 ⟨rfl, h10, _⟩
  rw [wk8.1]
  have hb := base_any R B _ w10 h10.row
  rw [e3] at hb
  go_wp2_with fail
  refine hb.mono ?_
  clear hb
  rintro e w11 ⟨rfl, rfl⟩
  go_wp2_with fail
  go_ret
  exact ⟨rfl, h10.bel⟩
end Go.Proofs.Ytimhpncdlaildaa
