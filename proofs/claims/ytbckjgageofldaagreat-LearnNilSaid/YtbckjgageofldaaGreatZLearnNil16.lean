/- Machines: New, All, Members, Table, Tree. Condition: the sets are bytes. -/
import Derived.Test.YtbckjgageofldaaGreatZLearnNil15
import Derived.Test.YtbckjgageofldaaGreatZLearnNil10
import Derived.ChangeKeysEq
namespace Go.Proofs.YtbckjgageofldaaGreat
open Go.RowKit
def newM (all first : Nat) : MacV := if mayS first all = true then ⟨bothS all all, bothS first first, tabNone, .nil⟩ else macNone
set_option maxRecDepth 100000 in
set_option maxHeartbeats 4000000 in
theorem new_any (all first : Nat) (ha : all < 256) (hf : first < 256) (w : World) :
  Calls Tryz.prog 35 #[.int .u8 (all : Int), .int .u8 (first : Int)] w fun e w' => e = .returned (.tuple #[macV (newM all first) none, .int .i64 (if mayS first all = true then 0 else 2)]) ∧ Below w.heap.size w w' := by
 have hb1 := (Below.refl w.heap.size w).alloc (Nat.le_refl _) (.cells (macCells macNone none).toArray 38)
 have hm1 : MacAt (w.alloc (.cells (macCells macNone none).toArray 38)) w.heap.size macNone none := heap_alloc_new _ _
 have Hmay := Lib.hid (fun y : World => mayS_any first all hf ha y)
 have Hb1 := Lib.hid (fun y : World => both_any all all ha ha y)
 have Hb2 := Lib.hid (fun y : World => both_any first first hf hf y)
 unfold newM
 obtain ⟨ms, hms⟩ : ∃ b, mayS first all = b := ⟨_, rfl⟩
 rw [hms] at Hmay ⊢
 clear hms
 go_enter Tryz.func35, Tryz.ntmps35
 go_upto_region 1 with fail
 change Code.wp _ _ _ _ (w.alloc (.cells (macCells macNone none).toArray 38))
 generalize w.alloc (.cells (macCells macNone none).toArray 38) = w1 at *
 have Hm1 := Lib.hid hm1; clear hm1
 have Hbel := Lib.hid hb1; clear hb1
 obtain ⟨⟨o0, o1, o14⟩, ⟨o2, o3, o4⟩, ⟨o5, o6, o7⟩, ⟨o8, o9, o10⟩, ⟨o11, o12, o13⟩⟩ := Hm1.out.cells
 have q0 := Hm1.out.thawed 0
 have q1 := Hm1.out.thawed 1
 have q2 := Hm1.out.thawed 2
 have q3 := Hm1.out.thawed 3
 have q4 := Hm1.out.thawed 4
 have q5 := Hm1.out.thawed 5
 have q6 := Hm1.out.thawed 6
 have q7 := Hm1.out.thawed 7
 have q8 := Hm1.out.thawed 8
 have q9 := Hm1.out.thawed 9
 have q10 := Hm1.out.thawed 10
 have q11 := Hm1.out.thawed 11
 have q12 := Hm1.out.thawed 12
 have q13 := Hm1.out.thawed 13
 have q14 := Hm1.out.thawed 14
 cases ms with
 | true =>
  go_wp2_with (first
   | ((with_reducible refine (Hmay.out _).mono ?_); rintro e w' ⟨rfl, rfl⟩)
   | ((with_reducible refine (Hb1.out _).mono ?_); rintro e w' ⟨rfl, rfl⟩)
   | ((with_reducible refine (Hb2.out _).mono ?_); rintro e w' ⟨rfl, rfl⟩))
  change bodyPost _ _ _ _ _ (rowSt w1 w.heap.size 0 (macCells ⟨bothS all all, bothS first first, tabNone, .nil⟩ none))
  have HZ := Lib.hid (macSt_at Hm1.out ⟨bothS all all, bothS first first, tabNone, .nil⟩ none)
  have Hbz := Lib.hid (rowSt_below (Nat.le_refl _) (macCells ⟨bothS all all, bothS first first, tabNone, .nil⟩ none) 0 _ Hbel.out)
  clear o0 o1 o2 o3 o4 o5 o6 o7 o8 o9 o10 o11 o12 o13 o14 q0 q1 q2 q3 q4 q5 q6 q7 q8 q9 q10 q11 q12 q13 q14
  generalize rowSt w1 w.heap.size 0 (macCells ⟨bothS all all, bothS first first, tabNone, .nil⟩ none) = w9 at *
  obtain ⟨⟨o0, o1, o14⟩, ⟨o2, o3, o4⟩, ⟨o5, o6, o7⟩, ⟨o8, o9, o10⟩, ⟨o11, o12, o13⟩⟩ := HZ.out.cells
  refine bodyPost_ret (v := .tuple #[.agg (macCells ⟨bothS all all, bothS first first, tabNone, .nil⟩ none).toArray, .int .i64 0]) (by rw [mac_eta]; simp [results, Tryz.results35, go_sem, o0, o1, o2, o3, o4, o5, o6, o7, o8, o9, o10, o11, o12, o13, o14] <;> rfl) rfl ?_
  exact ⟨rfl, Hbz.out⟩
 | false =>
  go_wp2_with ((with_reducible refine (Hmay.out _).mono ?_); rintro e w' ⟨rfl, rfl⟩)
  change bodyPost _ _ _ _ _ (rowSt w1 w.heap.size 0 (macCells macNone none))
  have HZ := Lib.hid (macSt_at Hm1.out macNone none)
  have Hbz := Lib.hid (rowSt_below (Nat.le_refl _) (macCells macNone none) 0 _ Hbel.out)
  clear o0 o1 o2 o3 o4 o5 o6 o7 o8 o9 o10 o11 o12 o13 o14 q0 q1 q2 q3 q4 q5 q6 q7 q8 q9 q10 q11 q12 q13 q14
  generalize rowSt w1 w.heap.size 0 (macCells macNone none) = w9 at *
  obtain ⟨⟨o0, o1, o14⟩, ⟨o2, o3, o4⟩, ⟨o5, o6, o7⟩, ⟨o8, o9, o10⟩, ⟨o11, o12, o13⟩⟩ := HZ.out.cells
  refine bodyPost_ret (v := .tuple #[.agg (macCells macNone none).toArray, .int .i64 2]) (by rw [mac_eta]; simp [results, Tryz.results35, go_sem, o0, o1, o2, o3, o4, o5, o6, o7, o8, o9, o10, o11, o12, o13, o14] <;> rfl) rfl ?_
  exact ⟨rfl, Hbz.out⟩
set_option maxRecDepth 100000 in
set_option maxHeartbeats 2000000 in
theorem mall_any (M : MacV) (P : Option Addr) (w : World) : Calls Tryz.prog 105 #[macV M P] w fun e w' => e = .returned (.int .u8 (M.all : Int)) ∧ Below w.heap.size w w' := by
 have hb1 := (Below.refl w.heap.size w).alloc (Nat.le_refl _) (.cells (macCells M P).toArray 38)
 have hm1 : MacAt (w.alloc (.cells (macCells M P).toArray 38)) w.heap.size M P := heap_alloc_new _ _
 unfold macV
 go_enter Tryz.func105, Tryz.ntmps105
 go_upto_region 1 with fail
 change Code.wp _ _ _ _ (w.alloc (.cells (macCells M P).toArray 38))
 generalize w.alloc (.cells (macCells M P).toArray 38) = w1 at *
 obtain ⟨⟨o0, o1, o14⟩, ⟨o2, o3, o4⟩, ⟨o5, o6, o7⟩, ⟨o8, o9, o10⟩, ⟨o11, o12, o13⟩⟩ := hm1.cells
 go_wp2_with fail
 go_ret
 exact ⟨rfl, hb1⟩
set_option maxRecDepth 100000 in
set_option maxHeartbeats 2000000 in
theorem mmem_any (M : MacV) (P : Option Addr) (w : World) : Calls Tryz.prog 37 #[macV M P] w fun e w' => e = .returned (.int .u8 (M.mem : Int)) ∧ Below w.heap.size w w' := by
 have hb1 := (Below.refl w.heap.size w).alloc (Nat.le_refl _) (.cells (macCells M P).toArray 38)
 have hm1 : MacAt (w.alloc (.cells (macCells M P).toArray 38)) w.heap.size M P := heap_alloc_new _ _
 unfold macV
 go_enter Tryz.func37, Tryz.ntmps37
 go_upto_region 1 with fail
 change Code.wp _ _ _ _ (w.alloc (.cells (macCells M P).toArray 38))
 generalize w.alloc (.cells (macCells M P).toArray 38) = w1 at *
 obtain ⟨⟨o0, o1, o14⟩, ⟨o2, o3, o4⟩, ⟨o5, o6, o7⟩, ⟨o8, o9, o10⟩, ⟨o11, o12, o13⟩⟩ := hm1.cells
 go_wp2_with fail
 go_ret
 exact ⟨rfl, hb1⟩
set_option maxRecDepth 100000 in
set_option maxHeartbeats 2000000 in
theorem mtree_any (M : MacV) (P : Option Addr) (w : World) : Calls Tryz.prog 53 #[macV M P] w fun e w' => e = .returned (.pointer P) ∧ Below w.heap.size w w' := by
 have hb1 := (Below.refl w.heap.size w).alloc (Nat.le_refl _) (.cells (macCells M P).toArray 38)
 have hm1 : MacAt (w.alloc (.cells (macCells M P).toArray 38)) w.heap.size M P := heap_alloc_new _ _
 unfold macV
 go_enter Tryz.func53, Tryz.ntmps53
 go_upto_region 1 with fail
 change Code.wp _ _ _ _ (w.alloc (.cells (macCells M P).toArray 38))
 generalize w.alloc (.cells (macCells M P).toArray 38) = w1 at *
 obtain ⟨⟨o0, o1, o14⟩, ⟨o2, o3, o4⟩, ⟨o5, o6, o7⟩, ⟨o8, o9, o10⟩, ⟨o11, o12, o13⟩⟩ := hm1.cells
 go_wp2_with ((with_reducible refine (tree_any P w1).mono ?_); rintro e w2 ⟨rfl, hb⟩; have Hb := Lib.hid (hb1.trans (hb.mono hb1.size)); clear hb)
 go_ret
 exact ⟨rfl, Hb.out⟩
end Go.Proofs.YtbckjgageofldaaGreat
namespace Go.Proofs.YtbckjgageofldaaGreat
open Go.RowKit
theorem layMac (ρ : Operand → Value) (x : World) (o : Oper) (h : o.op = .alloc 38) : (execOp ρ o).run Tryz.prog x = .ok (.value (RegL.ptr x.heap.size)) (x.alloc (.cells (macCells macNone none).toArray 38 (0, 0))) := by
 simp only [execOp, h]
 go_simp
 exact ⟨rfl, rfl⟩
theorem ma_st {y : World} {gm : Nat} {M0 : MacV} {P0 : Option Addr} (hs : MacAt y gm M0 P0) (M : MacV) (P : Option Addr) :
  MacAt (rowSt y gm 0 (macCells M P)) gm M P ∧ (∀ b, b ≠ gm → (rowSt y gm 0 (macCells M P)).heap[b]? = y.heap[b]?) ∧ (∀ n w0, Below n w0 y → n ≤ gm → Below n w0 (rowSt y gm 0 (macCells M P))) ∧ (∀ X, TreeAt y X → TreeAt (rowSt y gm 0 (macCells M P)) X) :=
 ⟨macSt_at hs M P, fun _ h => rowSt_other h _ _ _, fun _ _ hb h => rowSt_below h _ _ _ hb, fun _ hX => TreeAt.row hs (by decide) _ _ hX⟩
theorem store_row {P : Program} {g : Nat} {t : TypeId} : ∀ (vs : List Value) (i : Nat) (cur : Array Value) (y : World), y.heap[g]? = some (.cells cur t (0, 0)) → i + vs.length ≤ cur.size → (∀ v ∈ vs, v.oneCell' = true) →
  (storeCells ⟨g, 0, none⟩ vs i).run P y = .ok () (rowSt y g i vs)
 | [], _, _, _, _, _, _ => rfl
 | v :: r, i, cur, y, hg, hl, h1 => by
  have hi : i < cur.size := by simp at hl; omega
  have hadd : (⟨g, 0, none⟩ : Addr).add i = ⟨g, i, none⟩ := by unfold Addr.add; split <;> simp_all
  have hcell : y.cell? ⟨g, i, none⟩ = some cur[i] := by simp [World.cell?, hg, hi]
  have hfro : y.frozen? ⟨g, i, none⟩ = false := by simp [World.frozen?, hg]
  have hst : (store ((⟨g, 0, none⟩ : Addr).add i) v).run P y = .ok () (y.setCell ⟨g, i, none⟩ v) := by
   rw [hadd, run_store P y _ v _ (h1 v (by simp)), hcell]
   simp [hfro]
  have ih := store_row (P := P) r (i + 1) (cur.setIfInBounds i v) (y.setCell ⟨g, i, none⟩ v) (heap_setCell_same _ _ _ _ _ _ hg) (by simp at hl ⊢; omega) (fun x hx => h1 x (by simp [hx]))
  simp only [storeCells, Sem.run_bind, hst, Result.andThen_ok, ih]
  rfl
theorem mac_store {y : World} {g : Nat} {M0 : MacV} {P0 : Option Addr} (hs : MacAt y g M0 P0) {M : MacV} {P : Option Addr} {V : Value} (hV : macV M P = V) :
  V.cells.size = 15 ∧ (storeCells ⟨g, 0, none⟩ V.cells.toList).run Tryz.prog y = .ok () (rowSt y g 0 (macCells M P)) := by
 subst hV
 exact ⟨rfl, store_row (macCells M P) 0 _ y hs (Nat.le_refl _) (by simp [macCells, tabCells, lastCells, Value.oneCell'])⟩
end Go.Proofs.YtbckjgageofldaaGreat
namespace Go.Proofs.YtbckjgageofldaaGreat
open Go.RowKit
def findRO (k : Nat) : Code → Option Code
 | .region i o d => if i = k then some (.region i o d) else none
 | .seq a b => match findRO k a with
  | some c => some c
  | none => findRO k b
 | .loop c => findRO k c
 | .block _ c => findRO k c
 | .scope c => findRO k c
 | .cond _ a b => match findRO k a with
  | some c => some c
  | none => findRO k b
 | _ => none
def findR (k : Nat) (c : Code) : Code := (findRO k c).getD .skip
end Go.Proofs.YtbckjgageofldaaGreat
namespace Go.Proofs.YtbckjgageofldaaGreat
open Go.RowKit
structure MacOk (M : MacV) : Prop where
 all : M.all < 256
 kv : KvInv M.sh
end Go.Proofs.YtbckjgageofldaaGreat
namespace Go.Proofs.YtbckjgageofldaaGreat
open Go.RowKit
def macsDo (M : MacV) (l : List CmdV) : MacV := l.foldl (fun M c => (macDo M c).m) M
end Go.Proofs.YtbckjgageofldaaGreat
namespace Go.Proofs.YtbckjgageofldaaGreat
open Go.RowKit
set_option maxRecDepth 100000 in
set_option maxHeartbeats 4000000 in
theorem mtable_any (M : MacV) (P : Option Addr) (w : World) : Calls Tryz.prog 92 #[macV M P] w fun e w' => e = .returned (.agg (tabCells M.tab).toArray) ∧ Below w.heap.size w w' := by
 have hb1 := (Below.refl w.heap.size w).alloc (Nat.le_refl _) (.cells (macCells M P).toArray 38)
 have hm0 : MacAt (w.alloc (.cells (macCells M P).toArray 38)) w.heap.size M P := heap_alloc_new _ _
 have hs1 : (w.alloc (.cells (macCells M P).toArray 38)).heap.size = w.heap.size + 1 := by simp
 have hm1 := hm0.below ((Below.refl _ _).alloc (Nat.le_refl _) (.cells (tabCells tabNone).toArray 31))
 have hb2 := hb1.alloc hb1.size (.cells (tabCells tabNone).toArray 31)
 have hZ : TabAt ((w.alloc (.cells (macCells M P).toArray 38)).alloc (.cells (tabCells tabNone).toArray 31)) (w.heap.size + 1) tabNone := by rw [← hs1]; exact heap_alloc_new _ _
 clear hb1 hm0 hs1
 unfold macV
 go_enter Tryz.func92, Tryz.ntmps92
 go_upto_region 1 with fail
 change Code.wp _ _ _ _ ((w.alloc (.cells (macCells M P).toArray 38)).alloc (.cells (tabCells tabNone).toArray 31))
 generalize (w.alloc (.cells (macCells M P).toArray 38)).alloc (.cells (tabCells tabNone).toArray 31) = w1 at *
 obtain ⟨⟨m0, m1, m14⟩, ⟨m2, m3, m4⟩, ⟨m5, m6, m7⟩, ⟨m8, m9, m10⟩, ⟨m11, m12, m13⟩⟩ := hm1.cells
 obtain ⟨⟨z0, z1, z2⟩, ⟨z3, z4, z5⟩, ⟨z6, z7, z8⟩, ⟨z9, z10, z11⟩⟩ := hZ.cells
 have g0 := hZ.thawed 0
 have g1 := hZ.thawed 1
 have g2 := hZ.thawed 2
 have g3 := hZ.thawed 3
 have g4 := hZ.thawed 4
 have g5 := hZ.thawed 5
 have g6 := hZ.thawed 6
 have g7 := hZ.thawed 7
 have g8 := hZ.thawed 8
 have g9 := hZ.thawed 9
 have g10 := hZ.thawed 10
 have g11 := hZ.thawed 11
 have HT5 := Lib.hid (tabSt_at hZ M.tab)
 have Hb5 := Lib.hid (rowSt_below (g := w.heap.size + 1) (by omega) (tabCells M.tab) 0 _ hb2)
 clear hm1 hZ hb2
 go_wp2_with fail
 change bodyPost _ _ _ _ _ (rowSt w1 (w.heap.size + 1) 0 (tabCells M.tab))
 clear m0 m1 m2 m3 m4 m5 m6 m7 m8 m9 m10 m11 m12 m13 m14 z0 z1 z2 z3 z4 z5 z6 z7 z8 z9 z10 z11 g0 g1 g2 g3 g4 g5 g6 g7 g8 g9 g10 g11
 generalize rowSt w1 (w.heap.size + 1) 0 (tabCells M.tab) = w5 at *
 obtain ⟨⟨a0, a1, a2⟩, ⟨b0, b1, b2⟩, ⟨c0, c1, c2⟩, ⟨d0, d1, d2⟩⟩ := HT5.out.cells
 refine bodyPost_ret (v := .agg (tabCells M.tab).toArray) (by rw [tab_eta]; simp [results, Tryz.results92, go_sem, a0, a1, a2, b0, b1, b2, c0, c1, c2, d0, d1, d2] <;> rfl) rfl ?_
 exact ⟨rfl, Hb5.out⟩
end Go.Proofs.YtbckjgageofldaaGreat
namespace Go.Proofs.YtbckjgageofldaaGreat
open Go.RowKit
theorem infoLast : (Tryz.prog.info? 29).map (fun i => i.size) = some 3 := by kernel_rfl
end Go.Proofs.YtbckjgageofldaaGreat
