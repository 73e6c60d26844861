/- The document's row (palaverref16): Next. Condition: the row's slots lie in items of their own; at most 1048576 of them; the top is no more than the greatest slot. -/
import Derived.Test.YtimhpncdlaildaaSlQ
namespace Go.Proofs.Ytimhpncdlaildaa
open Go.RowKit

/-- A row, an item, and whether there is one. -/
def RefPost3 (b t : BitVec 64) (L : Its) (x : BitVec 64) (v : ByteArray) (ok : Bool) (w : World) (e : Ending) (w' : World) : Prop :=
  ∃ A n c, e = .returned (.tuple #[refV b t A n c, .agg #[.int .u64 (x.toNat : Int), .string v], .bool ok]) ∧ ItemsAt w' A n L ∧ Below w.heap.size w w' ∧ SlOk A n c

/-- An item that is stored whole. -/
def storedI (w : World) (g : Nat) (x : Int) (v : ByteArray) : World := (w.setCell ⟨g, 0, none⟩ (.int .u64 x)).setCell ⟨g, 1, none⟩ (.string v)
section
variable {w : World} {g : Nat} {x x' : Int} {v v' : ByteArray}
theorem storedI_at (h : ItemAt w g x' v') : ItemAt (storedI w g x v) g x v := by
  have h1 := heap_setCell_same w g 0 _ _ (.int .u64 x) h
  exact heap_setCell_same _ g 1 _ _ (.string v) h1
theorem storedI_size : (storedI w g x v).heap.size = w.heap.size := by simp [storedI, World.setCell]
theorem storedI_other {q : Nat} (hq : q ≠ g) : (storedI w g x v).heap[q]? = w.heap[q]? := by
  rw [storedI, Below.heap_setCell _ _ _ _ (by exact hq), Below.heap_setCell _ _ _ _ (by exact hq)]
theorem storedI_items {B : Option Addr} {m : Nat} {L : Its} (h : ItemsAt w B m L) (hB : ∀ b o, B = some ⟨b, o, none⟩ → 0 < m → b ≠ g) : ItemsAt (storedI w g x v) B m L := by
  refine ⟨h.hlen, h.hmax, fun i y hi => ?_⟩
  obtain ⟨b, o, e1, e2, e3⟩ := h.cells i y hi
  have hl := h.hlen
  have hi' : i < L.length := (List.getElem?_eq_some_iff.1 hi).1
  refine ⟨b, o, e1, by rw [storedI_size]; exact e2, fun j u hj => ?_⟩
  rw [← e3 j u hj]
  simp only [World.cell?, storedI_other (hB b o e1 (by omega))]
theorem storedI_below {w0 : World} {g0 : Nat} (h : Below g0 w0 w) (hg : g0 ≤ g) : Below g0 w0 (storedI w g x v) :=
  ⟨h.os, h.tape, h.output, by rw [storedI_size]; exact h.size, fun q hq => by rw [storedI_other (by omega)]; exact h.block q hq⟩
end
/-- Every block but one as it was. -/
def KeptBut (g : Nat) (w y : World) : Prop := ∀ q, q ≠ g → y.heap[q]? = w.heap[q]?
theorem ItemAt.thawed {w : World} {g : Nat} {x : Int} {v : ByteArray} (h : ItemAt w g x v) (j : Nat) : w.frozen? ⟨g, j, none⟩ = false := by
  unfold ItemAt at h
  simp [World.frozen?, h]

set_option maxRecDepth 100000 in
set_option maxHeartbeats 2000000 in
theorem refNext_none (b t : BitVec 64) (A : Option Addr) (n c : Nat) (L : Its) (w : World) (h : ItemsAt w A n L) (hok : SlOk A n c) (ht : t.toNat ≤ 4611686018427387904) (hno : mget L (t + 1#64) = none) :
    Calls Try.prog 27 #[refV b t A n c] w (RefPost3 b t L 0#64 ByteArray.empty false w) := by
  have Hok := Lib.hid hok; clear hok
  have hh := head_of h b t c
  have hold := items_old (w2 := w) h rfl
  have Hold := Lib.hid hold; clear hold h
  have hv : getV L (t + 1#64) = .tuple #[.string ByteArray.empty, .bool false] := by simp only [getV, hno]; rfl
  have hts : IntKind.u64.wrap ((t.toNat : Int) + 1) = ((t + 1#64).toNat : Int) := by rw [top_succ ht, IntKind.wrap_u64]; omega
  obtain ⟨sl, hsl⟩ : ∃ sl, t + 1#64 = sl := ⟨_, rfl⟩
  rw [hsl] at hv hts
  have Hv := Lib.hid hv; clear hv
  clear hsl hno
  unfold refV
  go_enter Try.func27, Try.ntmps27
  go_upto_region 1 with fail
  change Code.wp _ _ _ _ (((w.alloc (.cells (refCells b t A n c) 46)).alloc (.cells (refCells 0#64 0#64 none 0 0) 46)).alloc (.cells #[.int .u64 0, .string ByteArray.empty] 33))
  generalize (w.alloc (.cells (refCells b t A n c) 46)).alloc (.cells (refCells 0#64 0#64 none 0 0) 46) = w2 at *
  obtain ⟨g, hg⟩ : ∃ g, w.heap.size = g := ⟨_, rfl⟩
  rw [hg] at hh Hold ⊢
  have Hg := Lib.hid hg; clear hg
  have hs2 := hh.hs
  have hup : Below w2.heap.size w2 (w2.alloc (.cells #[.int .u64 0, .string ByteArray.empty] 33)) := (Below.refl _ _).alloc (Nat.le_refl _) _
  have hr3 := hh.hr.below hup
  have ho3 := hh.ho.below hup
  have hi3 := hh.hi.below hup
  have hit3 := ItemAt.new w2 0 ByteArray.empty
  have hb3 := hh.hb.trans (hup.mono (by omega : g ≤ w2.heap.size))
  have hs3 : (w2.alloc (.cells #[.int .u64 0, .string ByteArray.empty] 33)).heap.size = w2.heap.size + 1 := by simp
  clear hh hup
  generalize w2.alloc (.cells #[.int .u64 0, .string ByteArray.empty] 33) = w3 at *
  rw [hs2] at hit3 hs3
  obtain ⟨g4, hg4⟩ : ∃ g4, g + 1 = g4 := ⟨_, rfl⟩
  obtain ⟨g3, hg3⟩ : ∃ g3, g4 + 1 = g3 := ⟨_, rfl⟩
  rw [show g + 2 = g3 by omega] at hit3
  rw [hg4] at ho3 ⊢
  rw [hg3]
  have Hord := Lib.hid (show g < g4 ∧ g4 < g3 by omega)
  have Hs3 := Lib.hid (show w3.heap.size = g3 + 1 by omega)
  obtain ⟨r0, r1, r2⟩ := hr3.cells
  have Hr3 := Lib.hid hr3; clear hr3
  have Ho3 := Lib.hid ho3; clear ho3
  have Hi3 := Lib.hid hi3; clear hi3
  have Hit3 := Lib.hid hit3; clear hit3
  have Hb3 := Lib.hid hb3; clear hb3
  clear hg4 hg3 hs3 hs2
  go_wp2_with fail
  have hgt := refGet_any b t A n c L sl w3 Hi3.out
  rw [Hv.out] at hgt
  refine hgt.mono ?_
  rintro e w4 ⟨rfl, hb4⟩
  clear hgt r0 r1 r2
  obtain ⟨r0, r1, r2⟩ := (Hr3.out.below hb4).cells
  obtain ⟨o0, o1, o2⟩ := (Ho3.out.below hb4).cells
  have z0 := (Ho3.out.below hb4).thawed 0
  have z1 := (Ho3.out.below hb4).thawed 1
  have z2 := (Ho3.out.below hb4).thawed 2
  obtain ⟨j0, j1⟩ := (Hit3.out.below hb4).cells
  have y0 := (Hit3.out.below hb4).thawed 0
  have y1 := (Hit3.out.below hb4).thawed 1
  have hne : g4 ≠ g3 := by have := Hord.out; omega
  have Hb4 := Lib.hid hb4; clear hb4
  go_wp2_with fail
  have ho4 := Ho3.out.below Hb4.out
  have hit4 := Hit3.out.below Hb4.out
  have hi4 := Hi3.out.below Hb4.out
  change bodyPost _ _ _ _ _ (storedI (stored w4 g4 b t A n c) g3 0 ByteArray.empty)
  have hst := stored_at (x := b) (t := t) (A := A) (n := n) (c := c) ho4
  have hit5 : ItemAt (stored w4 g4 b t A n c) g3 0 ByteArray.empty := (stored_other hne.symm).trans hit4
  have hst6 : RefAt (storedI (stored w4 g4 b t A n c) g3 0 ByteArray.empty) g4 b t A n c := (storedI_other hne).trans hst
  have hit6 := storedI_at (x := 0) (v := ByteArray.empty) hit5
  obtain ⟨s0, s1, s2⟩ := hst6.cells
  obtain ⟨q0, q1⟩ := hit6.cells
  refine bodyPost_ret (v := .tuple #[refV b t A n c, .agg #[.int .u64 0, .string ByteArray.empty], .bool false]) (by simp [results, Try.results27, go_sem, s0, s1, s2, q0, q1, refV, refCells] <;> rfl) rfl ?_
  refine ⟨A, n, c, rfl, storedI_items (stored_items hi4 (fun b o e hn => by have := Hold.out b o e hn; have := Hord.out; omega)) (fun b o e hn => by have := Hold.out b o e hn; have := Hord.out; omega), ?_, Hok.out⟩
  rw [Hg.out]
  exact storedI_below (stored_below (Hb3.out.trans (Hb4.out.mono (by have := Hs3.out; have := Hord.out; omega))) (by have := Hord.out; omega)) (by have := Hord.out; omega)

set_option maxRecDepth 100000 in
set_option maxHeartbeats 2000000 in
theorem refNext_some (b t : BitVec 64) (A : Option Addr) (n c : Nat) (L : Its) (w : World) (h : ItemsAt w A n L) (hok : SlOk A n c) (ht : t.toNat ≤ 4611686018427387904) (v : ByteArray) (hyes : mget L (t + 1#64) = some v) :
    Calls Try.prog 27 #[refV b t A n c] w (RefPost3 b (t + 1#64) L (t + 1#64) v true w) := by
  have Hok := Lib.hid hok; clear hok
  have hh := head_of h b t c
  have hold := items_old (w2 := w) h rfl
  have Hold := Lib.hid hold; clear hold h
  have hv : getV L (t + 1#64) = .tuple #[.string v, .bool true] := by simp only [getV, hyes]; rfl
  have hts : IntKind.u64.wrap ((t.toNat : Int) + 1) = ((t + 1#64).toNat : Int) := by rw [top_succ ht, IntKind.wrap_u64]; omega
  obtain ⟨sl, hsl⟩ : ∃ sl, t + 1#64 = sl := ⟨_, rfl⟩
  rw [hsl] at hv hts ⊢
  have Hv := Lib.hid hv; clear hv
  clear hsl hyes
  unfold refV
  go_enter Try.func27, Try.ntmps27
  go_upto_region 1 with fail
  change Code.wp _ _ _ _ (((w.alloc (.cells (refCells b t A n c) 46)).alloc (.cells (refCells 0#64 0#64 none 0 0) 46)).alloc (.cells #[.int .u64 0, .string ByteArray.empty] 33))
  generalize (w.alloc (.cells (refCells b t A n c) 46)).alloc (.cells (refCells 0#64 0#64 none 0 0) 46) = w2 at *
  obtain ⟨g, hg⟩ : ∃ g, w.heap.size = g := ⟨_, rfl⟩
  rw [hg] at hh Hold ⊢
  have Hg := Lib.hid hg; clear hg
  have hs2 := hh.hs
  have hup : Below w2.heap.size w2 (w2.alloc (.cells #[.int .u64 0, .string ByteArray.empty] 33)) := (Below.refl _ _).alloc (Nat.le_refl _) _
  have hr3 := hh.hr.below hup
  have ho3 := hh.ho.below hup
  have hi3 := hh.hi.below hup
  have hit3 := ItemAt.new w2 0 ByteArray.empty
  have hb3 := hh.hb.trans (hup.mono (by omega : g ≤ w2.heap.size))
  have hs3 : (w2.alloc (.cells #[.int .u64 0, .string ByteArray.empty] 33)).heap.size = w2.heap.size + 1 := by simp
  clear hh hup
  generalize w2.alloc (.cells #[.int .u64 0, .string ByteArray.empty] 33) = w3 at *
  rw [hs2] at hit3 hs3
  obtain ⟨g4, hg4⟩ : ∃ g4, g + 1 = g4 := ⟨_, rfl⟩
  obtain ⟨g3, hg3⟩ : ∃ g3, g4 + 1 = g3 := ⟨_, rfl⟩
  rw [show g + 2 = g3 by omega] at hit3
  rw [hg4] at ho3 ⊢
  rw [hg3]
  have Hord := Lib.hid (show g < g4 ∧ g4 < g3 by omega)
  have Hs3 := Lib.hid (show w3.heap.size = g3 + 1 by omega)
  obtain ⟨r0, r1, r2⟩ := hr3.cells
  have Hr3 := Lib.hid hr3; clear hr3
  have Ho3 := Lib.hid ho3; clear ho3
  have Hi3 := Lib.hid hi3; clear hi3
  have Hit3 := Lib.hid hit3; clear hit3
  have Hb3 := Lib.hid hb3; clear hb3
  clear hg4 hg3 hs3 hs2
  go_wp2_with fail
  have hgt := refGet_any b t A n c L sl w3 Hi3.out
  rw [Hv.out] at hgt
  refine hgt.mono ?_
  rintro e w4 ⟨rfl, hb4⟩
  clear hgt r0 r1 r2
  obtain ⟨r0, r1, r2⟩ := (Hr3.out.below hb4).cells
  obtain ⟨o0, o1, o2⟩ := (Ho3.out.below hb4).cells
  have z0 := (Ho3.out.below hb4).thawed 0
  have z1 := (Ho3.out.below hb4).thawed 1
  have z2 := (Ho3.out.below hb4).thawed 2
  obtain ⟨j0, j1⟩ := (Hit3.out.below hb4).cells
  have y0 := (Hit3.out.below hb4).thawed 0
  have y1 := (Hit3.out.below hb4).thawed 1
  have hne : g4 ≠ g3 := by have := Hord.out; omega
  have Hb4 := Lib.hid hb4; clear hb4
  have x1 := (Hr3.out.below Hb4.out).thawed 1
  go_upto_region 5 with fail
  have hset := heap_setCell_same w4 g 1 _ _ (.int .u64 (sl.toNat : Int)) (Hr3.out.below Hb4.out)
  have hr5 : RefAt (w4.setCell ⟨g, 1, none⟩ (.int .u64 (sl.toNat : Int))) g b sl A n c := hset
  have hsz : (w4.setCell ⟨g, 1, none⟩ (.int .u64 (sl.toNat : Int))).heap.size = w4.heap.size := by simp [World.setCell]
  have hoth : ∀ q, q ≠ g → (w4.setCell ⟨g, 1, none⟩ (.int .u64 (sl.toNat : Int))).heap[q]? = w4.heap[q]? := fun q hq => Below.heap_setCell _ _ _ _ (by exact hq)
  have hord := Hord.out
  have hi5 : ItemsAt (w4.setCell ⟨g, 1, none⟩ (.int .u64 (sl.toNat : Int))) A n L := by
    have hi := Hi3.out.below Hb4.out
    refine ⟨hi.hlen, hi.hmax, fun i y hiy => ?_⟩
    obtain ⟨bb, oo, e1, e2, e3⟩ := hi.cells i y hiy
    have hl := hi.hlen
    have hi' : i < L.length := (List.getElem?_eq_some_iff.1 hiy).1
    refine ⟨bb, oo, e1, by rw [hsz]; exact e2, fun j v hj => ?_⟩
    rw [← e3 j v hj]
    have := Hold.out bb oo e1 (by omega)
    simp only [World.cell?, hoth bb (by omega)]
  have hb5 : Below g w (w4.setCell ⟨g, 1, none⟩ (.int .u64 (sl.toNat : Int))) := by
    have h := Hb3.out.trans (Hb4.out.mono (by have := Hs3.out; omega))
    exact ⟨h.os, h.tape, h.output, by rw [hsz]; exact h.size, fun q hq => by rw [hoth q (by omega)]; exact h.block q hq⟩
  have ho5 : RefAt (w4.setCell ⟨g, 1, none⟩ (.int .u64 (sl.toNat : Int))) g4 0#64 0#64 none 0 0 := (hoth g4 (by omega)).trans (Ho3.out.below Hb4.out)
  have hit5 : ItemAt (w4.setCell ⟨g, 1, none⟩ (.int .u64 (sl.toNat : Int))) g3 0 ByteArray.empty := (hoth g3 (by omega)).trans (Hit3.out.below Hb4.out)
  clear r0 r1 r2 o0 o1 o2 z0 z1 z2 x1 j0 j1 y0 y1 hset hoth hsz Hr3 Ho3 Hi3 Hit3 Hb3 Hb4
  generalize w4.setCell ⟨g, 1, none⟩ (.int .u64 (sl.toNat : Int)) = w5 at *
  have Hr5 := Lib.hid hr5; clear hr5
  have Hi5 := Lib.hid hi5; clear hi5
  have Hb5 := Lib.hid hb5; clear hb5
  have Ho5 := Lib.hid ho5; clear ho5
  have Hit5 := Lib.hid hit5; clear hit5
  have hge : g ≠ g4 := by omega
  clear hord
  refine RegR.wp_region_can (fun y => KeptBut g4 w5 y) [(0, 0), (1, 0), (2, 0), (3, 0), (4, 0), (5, 1), (6, 3), (7, 0)] (by kernel_rfl) (by kernel_rfl) (fun _ _ d _ _ h => by cases d <;> exact h) (fun _ _ => rfl) ?_
  dsimp only [RegR.pick, List.getElem?_cons_zero, List.getElem?_cons_succ]
  have hrd : ∀ y : World, KeptBut g4 w5 y → RefAt y g b sl A n c := fun y hy => (hy g hge).trans Hr5.out
  have Hrd := Lib.hid hrd; clear hrd
  refine RegR.can_read (.agg #[.int .u64 (b.toNat : Int), .int .u64 (sl.toNat : Int), .slice A n c]) rfl (fun y hy => ?_) ?_
  · obtain ⟨r0, r1, r2⟩ := (Hrd.out y hy).cells
    clear hy
    go_simp
  refine RegR.can_read (.pointer (some ⟨g, 1, none⟩)) rfl (fun y hy => ?_) ?_
  · clear hy
    go_simp
  refine RegR.can_read (.int .u64 (sl.toNat : Int)) rfl (fun y hy => ?_) ?_
  · obtain ⟨r0, r1, r2⟩ := (Hrd.out y hy).cells
    clear hy
    go_simp
  refine RegR.can_read (.string v) rfl (fun y hy => ?_) ?_
  · clear hy
    go_simp
  refine RegR.can_reads (fun K hK => ?_)
  go_simp
  refine ⟨_, fun _ _ => rfl, hK _ ?_⟩
  clear hK K
  refine RegR.can_turn rfl ?_
  obtain ⟨o0, o1, o2⟩ := Ho5.out.cells
  have z0 := Ho5.out.thawed 0
  have z1 := Ho5.out.thawed 1
  have z2 := Ho5.out.thawed 2
  go_simp
  refine ⟨fun q hq => stored_other hq, ?_⟩
  change RegR.wpCan _ _ _ _ _ _ (stored w5 g4 b sl A n c).drew
  have hne : g4 ≠ g3 := by have := Hord.out; omega
  have hst : RefAt (stored w5 g4 b sl A n c).drew g4 b sl A n c := stored_at Ho5.out
  have hit : ItemAt (stored w5 g4 b sl A n c).drew g3 0 ByteArray.empty := (stored_other hne.symm).trans Hit5.out
  have hi : ItemsAt (stored w5 g4 b sl A n c) A n L := stored_items Hi5.out (fun b o e hn => by have := Hold.out b o e hn; have := Hord.out; omega)
  have hi' : ItemsAt (stored w5 g4 b sl A n c).drew A n L := hi.below (below_drewN _ 1)
  have hb : Below g w (stored w5 g4 b sl A n c) := stored_below Hb5.out (by have := Hord.out; omega)
  have hb' : Below g w (stored w5 g4 b sl A n c).drew := ⟨hb.os, hb.tape, hb.output, hb.size, hb.block⟩
  clear hi hb Ho5 Hit5 Hi5 Hb5 Hr5 Hrd o0 o1 o2 z0 z1 z2
  generalize (stored w5 g4 b sl A n c).drew = w6 at *
  obtain ⟨j0, j1⟩ := hit.cells
  have y0 := hit.thawed 0
  have y1 := hit.thawed 1
  have Hst := Lib.hid hst; clear hst
  have Hit := Lib.hid hit; clear hit
  have Hi := Lib.hid hi'; clear hi'
  have Hb := Lib.hid hb'; clear hb'
  refine RegR.can_free rfl ?_
  go_simp
  refine ⟨fun y => y = storedI w6 g3 (sl.toNat : Int) v, rfl, ?_⟩
  refine RegR.can_reads (fun K hK => ?_)
  go_simp
  refine hK _ ?_
  clear hK K
  refine RegR.can_nil ?_
  go_wp2_with fail
  have hst6 : RefAt (storedI w6 g3 (sl.toNat : Int) v) g4 b sl A n c := (storedI_other hne).trans Hst.out
  have hit6 := storedI_at (x := (sl.toNat : Int)) (v := v) Hit.out
  obtain ⟨s0, s1, s2⟩ := hst6.cells
  obtain ⟨q0, q1⟩ := hit6.cells
  change bodyPost _ _ _ _ _ (storedI w6 g3 (sl.toNat : Int) v)
  refine bodyPost_ret (v := .tuple #[refV b sl A n c, .agg #[.int .u64 (sl.toNat : Int), .string v], .bool true]) (by simp [results, Try.results27, go_sem, s0, s1, s2, q0, q1, refV, refCells] <;> rfl) rfl ?_
  refine ⟨A, n, c, rfl, storedI_items Hi.out (fun b o e hn => by have := Hold.out b o e hn; have := Hord.out; omega), ?_, Hok.out⟩
  rw [Hg.out]
  exact storedI_below Hb.out (by have := Hord.out; omega)
end Go.Proofs.Ytimhpncdlaildaa
