/- Machines: New, All, Members, Table, Tree. Condition: the sets are bytes. -/
import Derived.Test.YtkngadbeflepoaaMMachineBack17
import Derived.Test.YtkngadbeflepoaaMMachineBack13
import Derived.Test.YtkngadbeflepoaaMMachineBack12
namespace Go.Proofs.Ytkngadbeflepoaa
open Go.RowKit

def newM (all first : Nat) : MacV := if mayS first all = true then ⟨bothS all all, bothS first first, tabNone, .nil⟩ else macNone
set_option maxRecDepth 100000 in
set_option maxHeartbeats 4000000 in
theorem new_any (all first : Nat) (ha : all < 256) (hf : first < 256) (w : World) :
    Calls Try.prog 31 #[.int .u8 (all : Int), .int .u8 (first : Int)] w fun e w' => e = .returned (.tuple #[macV (newM all first) none, .int .i64 (if mayS first all = true then 0 else 2)]) ∧ Below w.heap.size w w' := by
  have hb1 := (Below.refl w.heap.size w).alloc (Nat.le_refl _) (.cells (macCells macNone none).toArray 69)
  have hm1 : MacAt (w.alloc (.cells (macCells macNone none).toArray 69)) w.heap.size macNone none := heap_alloc_new _ _
  have Hmay := Lib.hid (fun y : World => mayS_any first all hf ha y)
  have Hb1 := Lib.hid (fun y : World => both_any all all ha ha y)
  have Hb2 := Lib.hid (fun y : World => both_any first first hf hf y)
  unfold newM
  obtain ⟨ms, hms⟩ : ∃ b, mayS first all = b := ⟨_, rfl⟩
  rw [hms] at Hmay ⊢
  clear hms
  go_enter Try.func31, Try.ntmps31
  go_upto_region 1 with fail
  change Code.wp _ _ _ _ (w.alloc (.cells (macCells macNone none).toArray 69))
  generalize w.alloc (.cells (macCells macNone none).toArray 69) = w1 at *
  have Hm1 := Lib.hid hm1; clear hm1
  have Hbel := Lib.hid hb1; clear hb1
  obtain ⟨⟨o0, o1, o14⟩, ⟨o2, o3, o4⟩, ⟨o5, o6, o7⟩, ⟨o8, o9, o10⟩, ⟨o11, o12, o13⟩⟩ := Hm1.out.cells
  have q0 := Hm1.out.thawed 0
  have q1 := Hm1.out.thawed 1
  have q2 := Hm1.out.thawed 2
  have q3 := Hm1.out.thawed 3
  have q4 := Hm1.out.thawed 4
  have q5 := Hm1.out.thawed 5
  have q6 := Hm1.out.thawed 6
  have q7 := Hm1.out.thawed 7
  have q8 := Hm1.out.thawed 8
  have q9 := Hm1.out.thawed 9
  have q10 := Hm1.out.thawed 10
  have q11 := Hm1.out.thawed 11
  have q12 := Hm1.out.thawed 12
  have q13 := Hm1.out.thawed 13
  have q14 := Hm1.out.thawed 14
  cases ms with
  | true =>
    go_wp2_with (first
      | ((with_reducible refine (Hmay.out _).mono ?_); rintro e w' ⟨rfl, rfl⟩)
      | ((with_reducible refine (Hb1.out _).mono ?_); rintro e w' ⟨rfl, rfl⟩)
      | ((with_reducible refine (Hb2.out _).mono ?_); rintro e w' ⟨rfl, rfl⟩))
    change bodyPost _ _ _ _ _ (rowSt w1 w.heap.size 0 (macCells ⟨bothS all all, bothS first first, tabNone, .nil⟩ none))
    have HZ := Lib.hid (macSt_at Hm1.out ⟨bothS all all, bothS first first, tabNone, .nil⟩ none)
    have Hbz := Lib.hid (rowSt_below (Nat.le_refl _) (macCells ⟨bothS all all, bothS first first, tabNone, .nil⟩ none) 0 _ Hbel.out)
    clear o0 o1 o2 o3 o4 o5 o6 o7 o8 o9 o10 o11 o12 o13 o14 q0 q1 q2 q3 q4 q5 q6 q7 q8 q9 q10 q11 q12 q13 q14
    generalize rowSt w1 w.heap.size 0 (macCells ⟨bothS all all, bothS first first, tabNone, .nil⟩ none) = w9 at *
    obtain ⟨⟨o0, o1, o14⟩, ⟨o2, o3, o4⟩, ⟨o5, o6, o7⟩, ⟨o8, o9, o10⟩, ⟨o11, o12, o13⟩⟩ := HZ.out.cells
    refine bodyPost_ret (v := .tuple #[.agg (macCells ⟨bothS all all, bothS first first, tabNone, .nil⟩ none).toArray, .int .i64 0]) (by rw [mac_eta]; simp [results, Try.results31, go_sem, o0, o1, o2, o3, o4, o5, o6, o7, o8, o9, o10, o11, o12, o13, o14] <;> rfl) rfl ?_
    exact ⟨rfl, Hbz.out⟩
  | false =>
    go_wp2_with ((with_reducible refine (Hmay.out _).mono ?_); rintro e w' ⟨rfl, rfl⟩)
    change bodyPost _ _ _ _ _ (rowSt w1 w.heap.size 0 (macCells macNone none))
    have HZ := Lib.hid (macSt_at Hm1.out macNone none)
    have Hbz := Lib.hid (rowSt_below (Nat.le_refl _) (macCells macNone none) 0 _ Hbel.out)
    clear o0 o1 o2 o3 o4 o5 o6 o7 o8 o9 o10 o11 o12 o13 o14 q0 q1 q2 q3 q4 q5 q6 q7 q8 q9 q10 q11 q12 q13 q14
    generalize rowSt w1 w.heap.size 0 (macCells macNone none) = w9 at *
    obtain ⟨⟨o0, o1, o14⟩, ⟨o2, o3, o4⟩, ⟨o5, o6, o7⟩, ⟨o8, o9, o10⟩, ⟨o11, o12, o13⟩⟩ := HZ.out.cells
    refine bodyPost_ret (v := .tuple #[.agg (macCells macNone none).toArray, .int .i64 2]) (by rw [mac_eta]; simp [results, Try.results31, go_sem, o0, o1, o2, o3, o4, o5, o6, o7, o8, o9, o10, o11, o12, o13, o14] <;> rfl) rfl ?_
    exact ⟨rfl, Hbz.out⟩

set_option maxRecDepth 100000 in
set_option maxHeartbeats 2000000 in
theorem mall_any (M : MacV) (P : Option Addr) (w : World) : Calls Try.prog 43 #[macV M P] w fun e w' => e = .returned (.int .u8 (M.all : Int)) ∧ Below w.heap.size w w' := by
  have hb1 := (Below.refl w.heap.size w).alloc (Nat.le_refl _) (.cells (macCells M P).toArray 69)
  have hm1 : MacAt (w.alloc (.cells (macCells M P).toArray 69)) w.heap.size M P := heap_alloc_new _ _
  unfold macV
  go_enter Try.func43, Try.ntmps43
  go_upto_region 1 with fail
  change Code.wp _ _ _ _ (w.alloc (.cells (macCells M P).toArray 69))
  generalize w.alloc (.cells (macCells M P).toArray 69) = w1 at *
  obtain ⟨⟨o0, o1, o14⟩, ⟨o2, o3, o4⟩, ⟨o5, o6, o7⟩, ⟨o8, o9, o10⟩, ⟨o11, o12, o13⟩⟩ := hm1.cells
  go_wp2_with fail
  go_ret
  exact ⟨rfl, hb1⟩

set_option maxRecDepth 100000 in
set_option maxHeartbeats 2000000 in
theorem mmem_any (M : MacV) (P : Option Addr) (w : World) : Calls Try.prog 44 #[macV M P] w fun e w' => e = .returned (.int .u8 (M.mem : Int)) ∧ Below w.heap.size w w' := by
  have hb1 := (Below.refl w.heap.size w).alloc (Nat.le_refl _) (.cells (macCells M P).toArray 69)
  have hm1 : MacAt (w.alloc (.cells (macCells M P).toArray 69)) w.heap.size M P := heap_alloc_new _ _
  unfold macV
  go_enter Try.func44, Try.ntmps44
  go_upto_region 1 with fail
  change Code.wp _ _ _ _ (w.alloc (.cells (macCells M P).toArray 69))
  generalize w.alloc (.cells (macCells M P).toArray 69) = w1 at *
  obtain ⟨⟨o0, o1, o14⟩, ⟨o2, o3, o4⟩, ⟨o5, o6, o7⟩, ⟨o8, o9, o10⟩, ⟨o11, o12, o13⟩⟩ := hm1.cells
  go_wp2_with fail
  go_ret
  exact ⟨rfl, hb1⟩

set_option maxRecDepth 100000 in
set_option maxHeartbeats 2000000 in
theorem mtree_any (M : MacV) (P : Option Addr) (w : World) : Calls Try.prog 46 #[macV M P] w fun e w' => e = .returned (.pointer P) ∧ Below w.heap.size w w' := by
  have hb1 := (Below.refl w.heap.size w).alloc (Nat.le_refl _) (.cells (macCells M P).toArray 69)
  have hm1 : MacAt (w.alloc (.cells (macCells M P).toArray 69)) w.heap.size M P := heap_alloc_new _ _
  unfold macV
  go_enter Try.func46, Try.ntmps46
  go_upto_region 1 with fail
  change Code.wp _ _ _ _ (w.alloc (.cells (macCells M P).toArray 69))
  generalize w.alloc (.cells (macCells M P).toArray 69) = w1 at *
  obtain ⟨⟨o0, o1, o14⟩, ⟨o2, o3, o4⟩, ⟨o5, o6, o7⟩, ⟨o8, o9, o10⟩, ⟨o11, o12, o13⟩⟩ := hm1.cells
  go_wp2_with ((with_reducible refine (tree_any P w1).mono ?_); rintro e w2 ⟨rfl, hb⟩; have Hb := Lib.hid (hb1.trans (hb.mono hb1.size)); clear hb)
  go_ret
  exact ⟨rfl, Hb.out⟩
end Go.Proofs.Ytkngadbeflepoaa
/- Machines: the law's of. No condition. -/
namespace Go.Proofs.Ytkngadbeflepoaa
open Go.RowKit

/-- The command that law13's 'of' makes. -/
def of13 (sq : BitVec 32) (k : UInt8) (key : ByteArray) (st : BitVec 8) : CmdV := ⟨1#8, sq, k, key, ByteArray.empty, ByteArray.empty, st⟩
set_option maxRecDepth 100000 in
set_option maxHeartbeats 2000000 in
theorem of13_any (sq : BitVec 32) (k : UInt8) (key : ByteArray) (st : BitVec 8) (w : World) :
    Calls Try.prog 58 #[.int .u32 (sq.toNat : Int), .int .u8 (k.toNat : Int), .string key, .int .u8 (st.toNat : Int)] w fun e w' => e = .returned (.agg (cmdCells (of13 sq k key st)).toArray) ∧ Below w.heap.size w w' := by
  obtain ⟨n, hn⟩ : ∃ n : Int, (k.toNat : Int) = n := ⟨_, rfl⟩
  have h1 : CmdAt (w.alloc (.cells (cmdCells ⟨0#8, 0#32, 0, ByteArray.empty, ByteArray.empty, ByteArray.empty, 0#8⟩).toArray 56)) w.heap.size ⟨0#8, 0#32, 0, ByteArray.empty, ByteArray.empty, ByteArray.empty, 0#8⟩ := CmdAt.new w _
  have hb1 := (Below.refl w.heap.size w).alloc (Nat.le_refl _) (.cells (cmdCells ⟨0#8, 0#32, 0, ByteArray.empty, ByteArray.empty, ByteArray.empty, 0#8⟩).toArray 56)
  rw [show cmdCells (of13 sq k key st) = [.int .u8 1, .int .u32 (sq.toNat : Int), .int .u8 n, .string key, .string ByteArray.empty, .string ByteArray.empty, .int .u8 (st.toNat : Int)] by rw [← hn]; rfl]
  rw [hn]
  have Hn := Lib.hid hn; clear hn
  go_enter Try.func58, Try.ntmps58
  go_upto_region 1 with fail
  change Code.wp _ _ _ _ (w.alloc (.cells (cmdCells ⟨0#8, 0#32, 0, ByteArray.empty, ByteArray.empty, ByteArray.empty, 0#8⟩).toArray 56))
  generalize w.alloc (.cells (cmdCells ⟨0#8, 0#32, 0, ByteArray.empty, ByteArray.empty, ByteArray.empty, 0#8⟩).toArray 56) = w1 at *
  have H1 := Lib.hid h1; clear h1
  have Hb := Lib.hid hb1; clear hb1
  obtain ⟨d0, d1, d2, d3, d4, d5, d6⟩ := H1.out.cells
  have t0 : ∀ j, w1.frozen? ⟨w.heap.size, j, none⟩ = false := fun j => CmdAt.thawed H1.out j
  have t0' := t0 0
  have t1' := t0 1
  have t2' := t0 2
  have t3' := t0 3
  have t4' := t0 4
  have t5' := t0 5
  have t6' := t0 6
  go_wp2_with fail
  change bodyPost _ _ _ _ _ (((((((w1.setCell ⟨w.heap.size, 0, none⟩ (.int .u8 1)).setCell ⟨w.heap.size, 1, none⟩ (.int .u32 (sq.toNat : Int))).setCell ⟨w.heap.size, 2, none⟩ (.int .u8 n)).setCell ⟨w.heap.size, 3, none⟩ (.string key)).setCell ⟨w.heap.size, 4, none⟩ (.string ByteArray.empty)).setCell ⟨w.heap.size, 5, none⟩ (.string ByteArray.empty)).setCell ⟨w.heap.size, 6, none⟩ (.int .u8 (st.toNat : Int)))
  have r7 := rowSet (rowSet (rowSet (rowSet (rowSet (rowSet (rowSet H1.out 0 (.int .u8 1)) 1 (.int .u32 (sq.toNat : Int))) 2 (.int .u8 n)) 3 (.string key)) 4 (.string ByteArray.empty)) 5 (.string ByteArray.empty)) 6 (.int .u8 (st.toNat : Int))
  have hb9 := below_setV (b := w.heap.size) (i := 6) (x := .int .u8 (st.toNat : Int)) (below_setV (b := w.heap.size) (i := 5) (x := .string ByteArray.empty) (below_setV (b := w.heap.size) (i := 4) (x := .string ByteArray.empty) (below_setV (b := w.heap.size) (i := 3) (x := .string key) (below_setV (b := w.heap.size) (i := 2) (x := .int .u8 n) (below_setV (b := w.heap.size) (i := 1) (x := .int .u32 (sq.toNat : Int)) (below_setV (b := w.heap.size) (i := 0) (x := .int .u8 1) Hb.out (Nat.le_refl _)) (Nat.le_refl _)) (Nat.le_refl _)) (Nat.le_refl _)) (Nat.le_refl _)) (Nat.le_refl _)) (Nat.le_refl _)
  clear d0 d1 d2 d3 d4 d5 d6 t0 t0' t1' t2' t3' t4' t5' t6'
  generalize ((((((w1.setCell ⟨w.heap.size, 0, none⟩ (.int .u8 1)).setCell ⟨w.heap.size, 1, none⟩ (.int .u32 (sq.toNat : Int))).setCell ⟨w.heap.size, 2, none⟩ (.int .u8 n)).setCell ⟨w.heap.size, 3, none⟩ (.string key)).setCell ⟨w.heap.size, 4, none⟩ (.string ByteArray.empty)).setCell ⟨w.heap.size, 5, none⟩ (.string ByteArray.empty)).setCell ⟨w.heap.size, 6, none⟩ (.int .u8 (st.toNat : Int)) = w9 at *
  have e7 : w9.heap[w.heap.size]? = some (.cells #[.int .u8 1, .int .u32 (sq.toNat : Int), .int .u8 n, .string key, .string ByteArray.empty, .string ByteArray.empty, .int .u8 (st.toNat : Int)] 56 (0, 0)) := r7
  have e0 : w9.cell? ⟨w.heap.size, 0, none⟩ = some (.int .u8 1) := cell_of_row _ _ _ _ _ _ e7
  have e1 : w9.cell? ⟨w.heap.size, 1, none⟩ = some (.int .u32 (sq.toNat : Int)) := cell_of_row _ _ _ _ _ _ e7
  have e2 : w9.cell? ⟨w.heap.size, 2, none⟩ = some (.int .u8 n) := cell_of_row _ _ _ _ _ _ e7
  have e3 : w9.cell? ⟨w.heap.size, 3, none⟩ = some (.string key) := cell_of_row _ _ _ _ _ _ e7
  have e4 : w9.cell? ⟨w.heap.size, 4, none⟩ = some (.string ByteArray.empty) := cell_of_row _ _ _ _ _ _ e7
  have e5 : w9.cell? ⟨w.heap.size, 5, none⟩ = some (.string ByteArray.empty) := cell_of_row _ _ _ _ _ _ e7
  have e6 : w9.cell? ⟨w.heap.size, 6, none⟩ = some (.int .u8 (st.toNat : Int)) := cell_of_row _ _ _ _ _ _ e7
  refine bodyPost_ret (v := .agg #[.int .u8 1, .int .u32 (sq.toNat : Int), .int .u8 n, .string key, .string ByteArray.empty, .string ByteArray.empty, .int .u8 (st.toNat : Int)]) (by simp [results, Try.results58, go_sem, e0, e1, e2, e3, e4, e5, e6] <;> rfl) rfl ?_
  exact ⟨rfl, hb9⟩

end Go.Proofs.Ytkngadbeflepoaa
/- Machines: the closed chain that law13's 'wakes' walks, worked out. No condition. -/
namespace Go.Proofs.Ytkngadbeflepoaa
open Go.RowKit

def mwA : ByteArray := ⟨#[97]⟩
def mw0 : MacV := newM 7 3
def mw1 : MacOut := macDo mw0 (of13 1#32 5 ByteArray.empty 6#8)
def mw2 : MacOut := macDo mw1.m (of13 2#32 5 ByteArray.empty 8#8)
def mw3 : MacOut := macDo mw2.m (of13 2#32 1 mwA 0#8)
def mw4 : MacOut := macDo mw3.m (of13 1#32 1 mwA 0#8)
def mw5 : MacOut := macDo mw4.m (of13 3#32 1 mwA 0#8)
theorem mw0_is : mayS 3 7 = true := by decide +kernel
theorem mw1_is : mw1.code = 0 ∧ mw1.text = ByteArray.empty ∧ mw1.fresh = true := by decide +kernel
theorem mw2_is : mw2.code = 2 ∧ mw2.text = ByteArray.empty ∧ mw2.fresh = true := by decide +kernel
theorem mw3_is : mw3.code = 2 ∧ mw3.text = ByteArray.empty ∧ mw3.fresh = false := by decide +kernel
theorem mw4_is : mw4.code = 3 ∧ mw4.text = ByteArray.empty ∧ mw4.fresh = false := by decide +kernel
theorem mw5_is : mw5.code = 1 ∧ mw5.text = ByteArray.empty ∧ mw5.fresh = true := by decide +kernel
theorem mw_end : mw5.m.mem = 6 ∧ mw5.m.all = 7 := by decide +kernel
end Go.Proofs.Ytkngadbeflepoaa
/- Machines: what a region that drives a machine lays and stores. No condition. -/
namespace Go.Proofs.Ytkngadbeflepoaa
open Go.RowKit

theorem layMac (ρ : Operand → Value) (x : World) (o : Oper) (h : o.op = .alloc 69) : (execOp ρ o).run Try.prog x = .ok (.value (RegL.ptr x.heap.size)) (x.alloc (.cells (macCells macNone none).toArray 69 (0, 0))) := by
  simp only [execOp, h]
  go_simp
  exact ⟨rfl, rfl⟩
/-- The world behind the stores of a machine and a reply. -/
def maW (y : World) (gm gr : Nat) (M : MacV) (P : Option Addr) (code : Nat) (text : ByteArray) : World := repSt (rowSt y gm 0 (macCells M P)) gr code text
structure MaEnd (y z : World) (gm gr : Nat) (M : MacV) (P : Option Addr) (code : Nat) (text : ByteArray) : Prop where
  st : MacAt z gm M P
  rep : RepAt z gr code text
  oth : ∀ b, b ≠ gm → b ≠ gr → z.heap[b]? = y.heap[b]?
  bel : ∀ n w0, Below n w0 y → n ≤ gm → n ≤ gr → Below n w0 z
  tree : ∀ X, TreeAt y X → TreeAt z X
theorem ma_end {y : World} {gm gr : Nat} {M0 : MacV} {P0 : Option Addr} {c0 : Nat} {t0 : ByteArray} (hs : MacAt y gm M0 P0) (hr : RepAt y gr c0 t0) (hne : gr ≠ gm) (M : MacV) (P : Option Addr) (code : Nat) (text : ByteArray) :
    MaEnd y (maW y gm gr M P code text) gm gr M P code text := by
  have r1 : RepAt (rowSt y gm 0 (macCells M P)) gr c0 t0 := (rowSt_other hne _ _ _).trans hr
  have m1 := macSt_at hs M P
  have r2 : RepAt ((rowSt y gm 0 (macCells M P)).setCell ⟨gr, 0, none⟩ (.int .u8 (code : Int))) gr code t0 := r1.set rfl
  refine ⟨(m1.other (Ne.symm hne)).other (Ne.symm hne), repSt_at r1 code text, fun b h1 h2 => ?_, fun n w hb h1 h2 => repSt_below (rowSt_below h1 _ _ _ hb) h2 _ _, fun X hX => ?_⟩
  · exact (Below.heap_setCell _ _ _ _ (by exact h2)).trans ((Below.heap_setCell _ _ _ _ (by exact h2)).trans (rowSt_other h1 _ _ _))
  · exact TreeAt.setC r2 (by simp [repCells]) (TreeAt.setC r1 (by simp [repCells]) (TreeAt.row hs (by decide) _ _ hX))
/-- The world behind the store of a machine. -/
theorem ma_st {y : World} {gm : Nat} {M0 : MacV} {P0 : Option Addr} (hs : MacAt y gm M0 P0) (M : MacV) (P : Option Addr) :
    MacAt (rowSt y gm 0 (macCells M P)) gm M P ∧ (∀ b, b ≠ gm → (rowSt y gm 0 (macCells M P)).heap[b]? = y.heap[b]?) ∧ (∀ n w0, Below n w0 y → n ≤ gm → Below n w0 (rowSt y gm 0 (macCells M P))) ∧ (∀ X, TreeAt y X → TreeAt (rowSt y gm 0 (macCells M P)) X) :=
  ⟨macSt_at hs M P, fun _ h => rowSt_other h _ _ _, fun _ _ hb h => rowSt_below h _ _ _ hb, fun _ hX => TreeAt.row hs (by decide) _ _ hX⟩
/-- A row of values, stored cell by cell. -/
theorem store_row {P : Program} {g : Nat} {t : TypeId} : ∀ (vs : List Value) (i : Nat) (cur : Array Value) (y : World), y.heap[g]? = some (.cells cur t (0, 0)) → i + vs.length ≤ cur.size → (∀ v ∈ vs, v.oneCell' = true) →
    (storeCells ⟨g, 0, none⟩ vs i).run P y = .ok () (rowSt y g i vs)
  | [], _, _, _, _, _, _ => rfl
  | v :: r, i, cur, y, hg, hl, h1 => by
    have hi : i < cur.size := by simp at hl; omega
    have hadd : (⟨g, 0, none⟩ : Addr).add i = ⟨g, i, none⟩ := by unfold Addr.add; split <;> simp_all
    have hcell : y.cell? ⟨g, i, none⟩ = some cur[i] := by simp [World.cell?, hg, hi]
    have hfro : y.frozen? ⟨g, i, none⟩ = false := by simp [World.frozen?, hg]
    have hst : (store ((⟨g, 0, none⟩ : Addr).add i) v).run P y = .ok () (y.setCell ⟨g, i, none⟩ v) := by
      rw [hadd, run_store P y _ v _ (h1 v (by simp)), hcell]
      simp [hfro]
    have ih := store_row (P := P) r (i + 1) (cur.setIfInBounds i v) (y.setCell ⟨g, i, none⟩ v) (heap_setCell_same _ _ _ _ _ _ hg) (by simp at hl ⊢; omega) (fun x hx => h1 x (by simp [hx]))
    simp only [storeCells, Sem.run_bind, hst, Result.andThen_ok, ih]
    rfl
theorem mac_store {y : World} {g : Nat} {M0 : MacV} {P0 : Option Addr} (hs : MacAt y g M0 P0) {M : MacV} {P : Option Addr} {V : Value} (hV : macV M P = V) :
    V.cells.size = 15 ∧ (storeCells ⟨g, 0, none⟩ V.cells.toList).run Try.prog y = .ok () (rowSt y g 0 (macCells M P)) := by
  subst hV
  exact ⟨rfl, store_row (macCells M P) 0 _ y hs (Nat.le_refl _) (by simp [macCells, tabCells, lastCells, Value.oneCell'])⟩
theorem mw_cnt : mw0.sh.cnt ≤ 10 ∧ mw1.m.sh.cnt ≤ 10 ∧ mw2.m.sh.cnt ≤ 10 ∧ mw3.m.sh.cnt ≤ 10 ∧ mw4.m.sh.cnt ≤ 10 ∧ mw5.m.sh.cnt ≤ 10 := by decide +kernel
theorem mw_all : mw0.all < 256 ∧ mw1.m.all < 256 ∧ mw2.m.all < 256 ∧ mw3.m.all < 256 ∧ mw4.m.all < 256 ∧ mw5.m.all < 256 := by decide +kernel
end Go.Proofs.Ytkngadbeflepoaa
/- Machines: what a region that drives a machine into new variables leaves; a region found by its number. No condition. -/
namespace Go.Proofs.Ytkngadbeflepoaa
open Go.RowKit

/-- The region of a number. -/
def findRO (k : Nat) : Code → Option Code
  | .region i o d => if i = k then some (.region i o d) else none
  | .seq a b => match findRO k a with
    | some c => some c
    | none => findRO k b
  | .loop c => findRO k c
  | .block _ c => findRO k c
  | .scope c => findRO k c
  | .cond _ a b => match findRO k a with
    | some c => some c
    | none => findRO k b
  | _ => none
def findR (k : Nat) (c : Code) : Code := (findRO k c).getD .skip
/-- A command lies there, and stays. -/
def CmdStay (w : World) (b o : Nat) (c : CmdV) : Prop :=
  ∀ y, Below w.heap.size w y → y.cell? ⟨b, o, none⟩ = some (.int .u8 (c.client.toNat : Int)) ∧ y.cell? ⟨b, o + 1, none⟩ = some (.int .u32 (c.seq.toNat : Int)) ∧ y.cell? ⟨b, o + 2, none⟩ = some (.int .u8 (c.kind.toNat : Int)) ∧
    y.cell? ⟨b, o + 3, none⟩ = some (.string c.key) ∧ y.cell? ⟨b, o + 4, none⟩ = some (.string c.old) ∧ y.cell? ⟨b, o + 5, none⟩ = some (.string c.fresh) ∧ y.cell? ⟨b, o + 6, none⟩ = some (.int .u8 (c.set.toNat : Int))
theorem cmd_stay {w : World} {a : Option Addr} {len : Nat} {z : List CmdV} (h : CmdsAt w a len z) {i : Nat} (hi : i < len) : ∃ b o, a = some ⟨b, o, none⟩ ∧ b < w.heap.size ∧ CmdStay w b (o + i * 7) (z.getD i default) := by
  obtain ⟨b, o, e, hbl, c0, c1, c2, c3, c4, c5, c6⟩ := cmds_cells h hi
  exact ⟨b, o, e, hbl, fun y hy => ⟨(hy.cell (p := ⟨b, _, none⟩) hbl).trans c0, (hy.cell (p := ⟨b, _, none⟩) hbl).trans c1, (hy.cell (p := ⟨b, _, none⟩) hbl).trans c2, (hy.cell (p := ⟨b, _, none⟩) hbl).trans c3,
    (hy.cell (p := ⟨b, _, none⟩) hbl).trans c4, (hy.cell (p := ⟨b, _, none⟩) hbl).trans c5, (hy.cell (p := ⟨b, _, none⟩) hbl).trans c6⟩⟩
theorem CmdStay.below {w w' : World} {b o : Nat} {c : CmdV} (h : CmdStay w b o c) (hb : Below w.heap.size w w') : CmdStay w' b o c := fun y hy => h y (hb.trans (hy.mono hb.size))
structure BEnd (w w' : World) (gs gr : Nat) (M : MacV) (P : Option Addr) (code : Nat) (text : ByteArray) (X : Tr) : Prop where
  st : MacAt w' gs M P
  rep : RepAt w' gr code text
  tr : TreeAt w' X
  ptr : X.ptr = P
  sh : X.sh = M.sh
  bel : Below w.heap.size w w'
  lo : w.heap.size ≤ gs
  lo2 : w.heap.size ≤ gr
  ne : gr ≠ gs
end Go.Proofs.Ytkngadbeflepoaa
/- Slices of one-cell elements, opened; of bytes. Over any program. No condition. -/
namespace Go.Proofs.Ytkngadbeflepoaa
open Go.ChangeShapes Go.WideShapes Go.Deep Go.RowKit

section
variable {H : Type} {enc : TypeId × Value → H} {P : Program} {w : World} {base : Nat} {spare : Nat → Bool} {held : Bool}
theorem ones_open {α : Type} [Inhabited α] (one : α → Value) {t e : TypeId} {a : Option Addr} {len cap : Nat} {d : DataW H} {pl : List MemPlace} (ht : P.underlying t = some (.slice e)) (hC : P.cellsOf e = 1)
    (hx : ∀ (v : Value) (y : DataW H × List MemPlace) (n : Nat), DataW.trod enc P w base spare held n e [v] = some y → ∃ x : α, v = one x)
    (h : DataW.Trod enc P w base spare held t (.slice a len cap) d pl) : ∃ z : List α, SliceAt 1 (fun x => [one x]) w a len z := by
  obtain ⟨m, hm⟩ := h
  rcases open_slice ht hm with ⟨h0, _⟩ | ⟨p, ln, cp, mm, n, D, Pl, hcs, hb, hl, hmx, hmm, _, hi⟩
  · have h0' : [Value.slice a len cap] = [Value.slice none 0 0] := h0
    simp only [List.cons.injEq, Value.slice.injEq, and_true] at h0'
    obtain ⟨rfl, rfl, rfl⟩ := h0'
    exact ⟨[], rfl, Nat.zero_le _, fun i x hx => by simp at hx⟩
  · have h0' : [Value.slice a len cap] = [Value.slice (some p) ln cp] := hcs
    simp only [List.cons.injEq, Value.slice.injEq, and_true] at h0'
    obtain ⟨rfl, rfl, rfl⟩ := h0'
    have hlm : len ≤ mm := by rw [hmm]; split <;> omega
    obtain ⟨g, hg⟩ := choose_lt (n := len) (p := fun i (x : α) => w.cells? base (p.add (i * 1)) 1 = some [one x]) (fun i hil => by
      obtain ⟨cs', h1, h2⟩ := hi i (by omega)
      rw [hC] at h1
      obtain ⟨_, hcl, _⟩ := World.cells?_some h1
      match cs', hcl with
      | [v], _ =>
        obtain ⟨x, rfl⟩ := hx v _ _ h2
        exact ⟨x, h1⟩)
    refine ⟨(List.range len).map g, by simp, by omega, fun i x hix => ?_⟩
    have hil : i < len := by
      have := (List.getElem?_eq_some_iff.1 hix).1
      simpa using this
    have hgx : g i = x := by simpa [hil] using hix
    have h1 := hg i hil
    rw [hgx] at h1
    obtain ⟨_, _, hcell⟩ := World.cells?_some h1
    obtain ⟨b, o, sp⟩ := p
    have g1 := hg 0 (by omega)
    obtain ⟨_, _, gcell⟩ := World.cells?_some g1
    have h00 := gcell 0 (by omega)
    simp only [List.getElem?_cons_zero] at h00
    have hspot : sp = none := by simpa [Addr.add] using World.cell?_spot h00
    subst hspot
    have hlt := World.block_lt_of_cell? _ _ h00
    refine ⟨b, o, rfl, ?_, fun j v hj => ?_⟩
    · simpa [Addr.add] using hlt
    · have hjl : j < 1 := by
        have := (List.getElem?_eq_some_iff.1 hj).1
        simpa using this
      have := hcell j hjl
      rw [add_add, hj] at this
      rw [← this, add_plain]
end
/-- The elements of a []uint8. -/
abbrev U8sAt := SliceAt 1 (fun x : BitVec 8 => [Value.int .u8 (x.toNat : Int)])
theorem u8s_cell {w : World} {a : Option Addr} {len : Nat} {z : List (BitVec 8)} (h : U8sAt w a len z) {i : Nat} (hi : i < len) :
    ∃ b o, a = some ⟨b, o, none⟩ ∧ b < w.heap.size ∧ ∀ y, Below w.heap.size w y → y.cell? ⟨b, o + i, none⟩ = some (.int .u8 ((z.getD i default).toNat : Int)) := by
  have hl := h.hlen
  have hz : z[i]? = some (z.getD i default) := by simp [List.getD, List.getElem?_eq_getElem (show i < z.length by omega)]
  obtain ⟨b, o, h1, h2, h3⟩ := h.cells i _ hz
  refine ⟨b, o, h1, h2, fun y hy => (hy.cell (p := ⟨b, _, none⟩) h2).trans ?_⟩
  have := h3 0 _ rfl
  rwa [show o + (i * 1 + 0) = o + i by omega] at this
end Go.Proofs.Ytkngadbeflepoaa
