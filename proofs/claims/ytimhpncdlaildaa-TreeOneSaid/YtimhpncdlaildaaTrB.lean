/- Trees: above, with. Condition: few enough nodes that their number is an int. -/
import Derived.Test.YtimhpncdlaildaaTrA
import Derived.Deep.DeepCutAuto
import Derived.Deep.CutBlock
namespace Go.Proofs.Ytimhpncdlaildaa
open Go.RowKit

theorem bel_drewN (w : World) (n : Nat) : Below w.heap.size w (w.drewN n) := ⟨rfl, rfl, rfl, Nat.le_refl _, fun _ _ => rfl⟩
def aboveB (wt : BitVec 64) (k : ByteArray) (wt' : BitVec 64) (k' : ByteArray) : Bool := if wt = wt' then slt k k' else decide (wt'.toNat < wt.toNat)

set_option maxHeartbeats 2000000 in
theorem above_any {b b' : Nat} {k v k' v' : ByteArray} {wt wt' : BitVec 64} {pl pr pl' pr' : Option Addr} {c d c' d' : Nat} (w : World) (h : NodeAt w b k v wt pl pr c d) (h' : NodeAt w b' k' v' wt' pl' pr' c' d') :
    Calls Try.prog 68 #[.pointer (some ⟨b, 0, none⟩), .pointer (some ⟨b', 0, none⟩)] w fun e w' => e = .returned (.bool (aboveB wt k wt' k')) ∧ Below w.heap.size w w' := by
  obtain ⟨c0, c1, c2, c3, c4, c5, c6⟩ := h.cells
  obtain ⟨e0, e1, e2, e3, e4, e5, e6⟩ := h'.cells
  clear c1 c3 c4 c5 c6 e1 e3 e4 e5 e6 h h'
  unfold aboveB
  by_cases hw : wt = wt'
  · subst hw
    rw [if_pos rfl]
    obtain ⟨r, hr⟩ : ∃ r, slt k k' = r := ⟨_, rfl⟩
    rw [hr]
    have hr' : Op.bytesLess k.toList k'.toList = r := hr
    clear hr
    go_enter Try.func68, Try.ntmps68
    go_wp2_with fail
    go_quiet (fail)
    go_wp2_with fail
    go_quiet (fail)
    go_wp2_with fail
    go_ret
    exact ⟨rfl, rfl, rfl, rfl, Nat.le_refl _, fun _ _ => rfl⟩
  · have hw' : wt.toNat ≠ wt'.toNat := fun e => hw (BitVec.eq_of_toNat_eq e)
    have hd : ((wt.toNat : Int) == (wt'.toNat : Int)) = false := by simp; omega
    have hd2 : ¬ wt.toNat = wt'.toNat := hw'
    rw [if_neg hw]
    obtain ⟨r, hr⟩ : ∃ r, decide (wt'.toNat < wt.toNat) = r := ⟨_, rfl⟩
    rw [hr]
    go_enter Try.func68, Try.ntmps68
    go_wp2_with fail
    go_quiet (fail)
    go_wp2_with fail
    go_quiet (fail)
    go_wp2_with fail
    go_ret
    exact ⟨rfl, rfl, rfl, rfl, Nat.le_refl _, fun _ _ => rfl⟩

theorem TreeAt.keep {w w' : World} {n : Nat} : ∀ {T : Tr}, TreeAt w T → T.Lo n → (∀ q, q < n → w'.heap[q]? = w.heap[q]?) → TreeAt w' T
  | .nil, _, _, _ => trivial
  | .node _ _ _ _ _ _, ⟨h1, h2, h3⟩, ⟨l1, l2, l3⟩, hb => ⟨(hb _ l1).trans h1, TreeAt.keep h2 l2 hb, TreeAt.keep h3 l3 hb⟩
theorem Tr.Lo.mono {n m : Nat} (hnm : n ≤ m) : ∀ {T : Tr}, T.Lo n → T.Lo m
  | .nil, _ => trivial
  | .node _ _ _ _ _ _, ⟨h1, h2, h3⟩ => ⟨Nat.lt_of_lt_of_le h1 hnm, h2.mono hnm, h3.mono hnm⟩
theorem NodeAt.set {w : World} {b : Nat} {k v k' v' : ByteArray} {wt wt' : BitVec 64} {pl pr pl' pr' : Option Addr} {c d c' d' i : Nat} {x : Value} (h : NodeAt w b k v wt pl pr c d)
    (hx : (nodeCells k v wt pl pr c d).setIfInBounds i x = nodeCells k' v' wt' pl' pr' c' d') : NodeAt (w.setCell ⟨b, i, none⟩ x) b k' v' wt' pl' pr' c' d' := by
  unfold NodeAt
  rw [heap_setCell_same _ _ _ _ _ _ h, hx]
theorem below_set {w0 w : World} {n b i : Nat} {x : Value} (h : Below n w0 w) (hb : n ≤ b) : Below n w0 (w.setCell ⟨b, i, none⟩ x) :=
  ⟨h.os, h.tape, h.output, by simpa [World.setCell] using h.size, fun q hq => (Below.heap_setCell _ _ _ _ (by show q ≠ b; omega)).trans (h.block q hq)⟩

set_option maxHeartbeats 2000000 in
theorem with_any {b : Nat} {k v : ByteArray} {wt : BitVec 64} {pl pr : Option Addr} {c d : Nat} (L R : Tr) (w : World) (h : NodeAt w b k v wt pl pr c d) (hL : TreeAt w L) (hR : TreeAt w R) (hc : L.cnt + 1 + R.cnt ≤ 4611686018427387904) :
    Calls Try.prog 82 #[.pointer (some ⟨b, 0, none⟩), .pointer L.ptr, .pointer R.ptr] w fun e w' => ∃ b', e = .returned (.pointer (some ⟨b', 0, none⟩)) ∧ w.heap.size ≤ b' ∧ TreeAt w' (.node b' k v wt L R) ∧ Below w.heap.size w w' := by
  obtain ⟨c0, c1, c2, c3, c4, c5, c6⟩ := h.cells
  have d1 := L.dep_cnt
  have d2 := R.dep_cnt
  have hw1 : IntKind.i64.wrap ((L.cnt : Int) + 1) = ((L.cnt + 1 : Nat) : Int) := by rw [IntKind.wrap_i64] <;> omega
  have hw2 : IntKind.i64.wrap (((L.cnt + 1 : Nat) : Int) + (R.cnt : Int)) = ((L.cnt + 1 + R.cnt : Nat) : Int) := by rw [IntKind.wrap_i64] <;> omega
  obtain ⟨mx, hmx⟩ : ∃ mx, max L.dep R.dep = mx := ⟨_, rfl⟩
  have hif : (if L.dep < R.dep then (R.dep : Int) else (L.dep : Int)) = (mx : Int) := by split <;> omega
  have hw3 : wrap64 (1 + (mx : Int)) = ((1 + mx : Nat) : Int) := by unfold wrap64; omega
  obtain ⟨mx1, hmx1⟩ : ∃ m, 1 + mx = m := ⟨_, rfl⟩
  rw [hmx1] at hw3
  have Hmx := Lib.hid (show 1 + max L.dep R.dep = mx1 by rw [hmx]; exact hmx1); clear hmx hmx1
  have HL := Lib.hid hL; clear hL
  have HR := Lib.hid hR; clear hR
  obtain ⟨m1, hm1⟩ : ∃ m, L.cnt + 1 = m := ⟨_, rfl⟩
  rw [hm1] at hw1 hw2
  obtain ⟨m2, hm2⟩ : ∃ m, m1 + R.cnt = m := ⟨_, rfl⟩
  rw [hm2] at hw2
  have Hm1 := Lib.hid hm1; clear hm1
  have Hm2 := Lib.hid hm2; clear hm2
  clear d1 d2 hc h
  go_enter Try.func82, Try.ntmps82
  go_upto_region 2 with fail
  have hb1 := (Below.refl w.heap.size w).alloc (Nat.le_refl _) (.cells (nodeCells k v wt pl pr c d) 122)
  have hn1 : NodeAt (w.alloc (.cells (nodeCells k v wt pl pr c d) 122)) w.heap.size k v wt pl pr c d := heap_alloc_new w _
  have hloL := HL.out.lo
  have hloR := HR.out.lo
  have hatL := HL.out
  have hatR := HR.out
  change Code.wp _ _ _ _ (w.alloc (.cells (nodeCells k v wt pl pr c d) 122))
  generalize w.alloc (.cells (nodeCells k v wt pl pr c d) 122) = w1 at *
  obtain ⟨g, hg⟩ : ∃ g, w.heap.size = g := ⟨_, rfl⟩
  rw [hg] at hb1 hn1 hloL hloR ⊢
  have Hg := Lib.hid hg; clear hg c0 c1 c2 c3 c4 c5 c6
  obtain ⟨c0, c1, c2, c3, c4, c5, c6⟩ := hn1.cells
  have z3 := hn1.thawed 3
  have z4 := hn1.thawed 4
  have hn2 : NodeAt ((w1.setCell ⟨g, 3, none⟩ (.pointer L.ptr)).setCell ⟨g, 4, none⟩ (.pointer R.ptr)) g k v wt L.ptr R.ptr c d := (hn1.set rfl).set rfl
  have hb2 : Below g w ((w1.setCell ⟨g, 3, none⟩ (.pointer L.ptr)).setCell ⟨g, 4, none⟩ (.pointer R.ptr)) := below_set (below_set hb1 (Nat.le_refl _)) (Nat.le_refl _)
  have Hn2 := Lib.hid hn2; clear hn2
  have Hb2 := Lib.hid hb2; clear hb2
  have HloL := Lib.hid hloL; clear hloL
  have HloR := Lib.hid hloR; clear hloR
  clear hb1 hn1 HL HR
  have HatL := Lib.hid hatL; clear hatL
  have HatR := Lib.hid hatR; clear hatR
  go_upto_region 3 with fail
  generalize (w1.setCell ⟨g, 3, none⟩ (.pointer L.ptr)).setCell ⟨g, 4, none⟩ (.pointer R.ptr) = w2 at *
  clear c0 c1 c2 c3 c4 c5 c6 z3 z4
  obtain ⟨c0, c1, c2, c3, c4, c5, c6⟩ := Hn2.out.cells
  have z5 := Hn2.out.thawed 5
  have hL2 : TreeAt w2 L := HatL.out.keep HloL.out Hb2.out.block
  have hR2 : TreeAt w2 R := HatR.out.keep HloR.out Hb2.out.block
  have hn3 : NodeAt (w2.setCell ⟨g, 5, none⟩ (.int .i64 (m2 : Int))) g k v wt L.ptr R.ptr m2 d := Hn2.out.set rfl
  have hb3 : Below g w (w2.setCell ⟨g, 5, none⟩ (.int .i64 (m2 : Int))) := below_set Hb2.out (Nat.le_refl _)
  have Hn3 := Lib.hid hn3; clear hn3
  have Hb3 := Lib.hid hb3; clear hb3
  have HL2 := Lib.hid hL2; clear hL2
  have HR2 := Lib.hid hR2; clear hR2
  go_upto_region 4 with (first
    | ((with_reducible refine (len_any L _ HL2.out).mono ?_); rintro e w' ⟨rfl, rfl⟩)
    | ((with_reducible refine (len_any R _ HR2.out).mono ?_); rintro e w' ⟨rfl, rfl⟩))
  generalize w2.setCell ⟨g, 5, none⟩ (.int .i64 (m2 : Int)) = w3 at *
  clear c0 c1 c2 c3 c4 c5 c6 z5 HL2 HR2 Hn2 Hb2
  obtain ⟨c0, c1, c2, c3, c4, c5, c6⟩ := Hn3.out.cells
  have z6 := Hn3.out.thawed 6
  have hL3 : TreeAt w3 L := HatL.out.keep HloL.out Hb3.out.block
  have hR3 : TreeAt w3 R := HatR.out.keep HloR.out Hb3.out.block
  have hn4 : NodeAt (w3.setCell ⟨g, 6, none⟩ (.int .i64 (mx1 : Int))) g k v wt L.ptr R.ptr m2 mx1 := Hn3.out.set rfl
  have hb4 : Below g w (w3.setCell ⟨g, 6, none⟩ (.int .i64 (mx1 : Int))) := below_set Hb3.out (Nat.le_refl _)
  have Hn4 := Lib.hid hn4; clear hn4
  have Hb4 := Lib.hid hb4; clear hb4
  have HL3 := Lib.hid hL3; clear hL3
  have HR3 := Lib.hid hR3; clear hR3
  go_upto_region 5 with (first
    | ((with_reducible refine (depth_any L _ HL3.out).mono ?_); rintro e w' ⟨rfl, rfl⟩)
    | ((with_reducible refine (depth_any R _ HR3.out).mono ?_); rintro e w' ⟨rfl, rfl⟩))
  go_wp2_with fail
  go_ret
  refine ⟨g, rfl, by have := Hg.out; omega, ⟨?_, HatL.out.keep HloL.out Hb4.out.block, HatR.out.keep HloR.out Hb4.out.block⟩, by have := Hb4.out; rw [← Hg.out] at this ⊢; exact this⟩
  have := Hn4.out
  rw [show L.cnt + 1 + R.cnt = m2 by have := Hm1.out; have := Hm2.out; omega, Hmx.out]
  exact this
end Go.Proofs.Ytimhpncdlaildaa
