/- Machines: New, All, Members, Table, Tree. Condition: the sets are bytes. -/
import Derived.Test.YtkngadbeflepoaaGreatZDeltaTells16
import Derived.Test.YtkngadbeflepoaaGreatZDeltaTells12
import Derived.Test.YtkngadbeflepoaaGreatZDeltaTells11
import Derived.ChangeKeysEq
namespace Go.Proofs.YtkngadbeflepoaaGreat
open Go.RowKit
def newM (all first : Nat) : MacV := if mayS first all = true then ⟨bothS all all, bothS first first, tabNone, .nil⟩ else macNone
set_option maxRecDepth 100000 in
set_option maxHeartbeats 4000000 in
theorem new_any (all first : Nat) (ha : all < 256) (hf : first < 256) (w : World) :
    Calls Tryz.prog 9 #[.int .u8 (all : Int), .int .u8 (first : Int)] w fun e w' => e = .returned (.tuple #[macV (newM all first) none, .int .i64 (if mayS first all = true then 0 else 2)]) ∧ Below w.heap.size w w' := by
  have hb1 := (Below.refl w.heap.size w).alloc (Nat.le_refl _) (.cells (macCells macNone none).toArray 39)
  have hm1 : MacAt (w.alloc (.cells (macCells macNone none).toArray 39)) w.heap.size macNone none := heap_alloc_new _ _
  have Hmay := Lib.hid (fun y : World => mayS_any first all hf ha y)
  have Hb1 := Lib.hid (fun y : World => both_any all all ha ha y)
  have Hb2 := Lib.hid (fun y : World => both_any first first hf hf y)
  unfold newM
  obtain ⟨ms, hms⟩ : ∃ b, mayS first all = b := ⟨_, rfl⟩
  rw [hms] at Hmay ⊢
  clear hms
  go_enter Tryz.func9, Tryz.ntmps9
  go_upto_region 1 with fail
  change Code.wp _ _ _ _ (w.alloc (.cells (macCells macNone none).toArray 39))
  generalize w.alloc (.cells (macCells macNone none).toArray 39) = w1 at *
  have Hm1 := Lib.hid hm1; clear hm1
  have Hbel := Lib.hid hb1; clear hb1
  obtain ⟨⟨o0, o1, o14⟩, ⟨o2, o3, o4⟩, ⟨o5, o6, o7⟩, ⟨o8, o9, o10⟩, ⟨o11, o12, o13⟩⟩ := Hm1.out.cells
  have q0 := Hm1.out.thawed 0
  have q1 := Hm1.out.thawed 1
  have q2 := Hm1.out.thawed 2
  have q3 := Hm1.out.thawed 3
  have q4 := Hm1.out.thawed 4
  have q5 := Hm1.out.thawed 5
  have q6 := Hm1.out.thawed 6
  have q7 := Hm1.out.thawed 7
  have q8 := Hm1.out.thawed 8
  have q9 := Hm1.out.thawed 9
  have q10 := Hm1.out.thawed 10
  have q11 := Hm1.out.thawed 11
  have q12 := Hm1.out.thawed 12
  have q13 := Hm1.out.thawed 13
  have q14 := Hm1.out.thawed 14
  cases ms with
  | true =>
    go_wp2_with (first
      | ((with_reducible refine (Hmay.out _).mono ?_); rintro e w' ⟨rfl, rfl⟩)
      | ((with_reducible refine (Hb1.out _).mono ?_); rintro e w' ⟨rfl, rfl⟩)
      | ((with_reducible refine (Hb2.out _).mono ?_); rintro e w' ⟨rfl, rfl⟩))
    change bodyPost _ _ _ _ _ (rowSt w1 w.heap.size 0 (macCells ⟨bothS all all, bothS first first, tabNone, .nil⟩ none))
    have HZ := Lib.hid (macSt_at Hm1.out ⟨bothS all all, bothS first first, tabNone, .nil⟩ none)
    have Hbz := Lib.hid (rowSt_below (Nat.le_refl _) (macCells ⟨bothS all all, bothS first first, tabNone, .nil⟩ none) 0 _ Hbel.out)
    clear o0 o1 o2 o3 o4 o5 o6 o7 o8 o9 o10 o11 o12 o13 o14 q0 q1 q2 q3 q4 q5 q6 q7 q8 q9 q10 q11 q12 q13 q14
    generalize rowSt w1 w.heap.size 0 (macCells ⟨bothS all all, bothS first first, tabNone, .nil⟩ none) = w9 at *
    obtain ⟨⟨o0, o1, o14⟩, ⟨o2, o3, o4⟩, ⟨o5, o6, o7⟩, ⟨o8, o9, o10⟩, ⟨o11, o12, o13⟩⟩ := HZ.out.cells
    refine bodyPost_ret (v := .tuple #[.agg (macCells ⟨bothS all all, bothS first first, tabNone, .nil⟩ none).toArray, .int .i64 0]) (by rw [mac_eta]; simp [results, Tryz.results9, go_sem, o0, o1, o2, o3, o4, o5, o6, o7, o8, o9, o10, o11, o12, o13, o14] <;> rfl) rfl ?_
    exact ⟨rfl, Hbz.out⟩
  | false =>
    go_wp2_with ((with_reducible refine (Hmay.out _).mono ?_); rintro e w' ⟨rfl, rfl⟩)
    change bodyPost _ _ _ _ _ (rowSt w1 w.heap.size 0 (macCells macNone none))
    have HZ := Lib.hid (macSt_at Hm1.out macNone none)
    have Hbz := Lib.hid (rowSt_below (Nat.le_refl _) (macCells macNone none) 0 _ Hbel.out)
    clear o0 o1 o2 o3 o4 o5 o6 o7 o8 o9 o10 o11 o12 o13 o14 q0 q1 q2 q3 q4 q5 q6 q7 q8 q9 q10 q11 q12 q13 q14
    generalize rowSt w1 w.heap.size 0 (macCells macNone none) = w9 at *
    obtain ⟨⟨o0, o1, o14⟩, ⟨o2, o3, o4⟩, ⟨o5, o6, o7⟩, ⟨o8, o9, o10⟩, ⟨o11, o12, o13⟩⟩ := HZ.out.cells
    refine bodyPost_ret (v := .tuple #[.agg (macCells macNone none).toArray, .int .i64 2]) (by rw [mac_eta]; simp [results, Tryz.results9, go_sem, o0, o1, o2, o3, o4, o5, o6, o7, o8, o9, o10, o11, o12, o13, o14] <;> rfl) rfl ?_
    exact ⟨rfl, Hbz.out⟩
set_option maxRecDepth 100000 in
set_option maxHeartbeats 2000000 in
theorem mall_any (M : MacV) (P : Option Addr) (w : World) : Calls Tryz.prog 14 #[macV M P] w fun e w' => e = .returned (.int .u8 (M.all : Int)) ∧ Below w.heap.size w w' := by
  have hb1 := (Below.refl w.heap.size w).alloc (Nat.le_refl _) (.cells (macCells M P).toArray 39)
  have hm1 : MacAt (w.alloc (.cells (macCells M P).toArray 39)) w.heap.size M P := heap_alloc_new _ _
  unfold macV
  go_enter Tryz.func14, Tryz.ntmps14
  go_upto_region 1 with fail
  change Code.wp _ _ _ _ (w.alloc (.cells (macCells M P).toArray 39))
  generalize w.alloc (.cells (macCells M P).toArray 39) = w1 at *
  obtain ⟨⟨o0, o1, o14⟩, ⟨o2, o3, o4⟩, ⟨o5, o6, o7⟩, ⟨o8, o9, o10⟩, ⟨o11, o12, o13⟩⟩ := hm1.cells
  go_wp2_with fail
  go_ret
  exact ⟨rfl, hb1⟩
set_option maxRecDepth 100000 in
set_option maxHeartbeats 2000000 in
theorem mmem_any (M : MacV) (P : Option Addr) (w : World) : Calls Tryz.prog 16 #[macV M P] w fun e w' => e = .returned (.int .u8 (M.mem : Int)) ∧ Below w.heap.size w w' := by
  have hb1 := (Below.refl w.heap.size w).alloc (Nat.le_refl _) (.cells (macCells M P).toArray 39)
  have hm1 : MacAt (w.alloc (.cells (macCells M P).toArray 39)) w.heap.size M P := heap_alloc_new _ _
  unfold macV
  go_enter Tryz.func16, Tryz.ntmps16
  go_upto_region 1 with fail
  change Code.wp _ _ _ _ (w.alloc (.cells (macCells M P).toArray 39))
  generalize w.alloc (.cells (macCells M P).toArray 39) = w1 at *
  obtain ⟨⟨o0, o1, o14⟩, ⟨o2, o3, o4⟩, ⟨o5, o6, o7⟩, ⟨o8, o9, o10⟩, ⟨o11, o12, o13⟩⟩ := hm1.cells
  go_wp2_with fail
  go_ret
  exact ⟨rfl, hb1⟩
set_option maxRecDepth 100000 in
set_option maxHeartbeats 2000000 in
theorem mtree_any (M : MacV) (P : Option Addr) (w : World) : Calls Tryz.prog 20 #[macV M P] w fun e w' => e = .returned (.pointer P) ∧ Below w.heap.size w w' := by
  have hb1 := (Below.refl w.heap.size w).alloc (Nat.le_refl _) (.cells (macCells M P).toArray 39)
  have hm1 : MacAt (w.alloc (.cells (macCells M P).toArray 39)) w.heap.size M P := heap_alloc_new _ _
  unfold macV
  go_enter Tryz.func20, Tryz.ntmps20
  go_upto_region 1 with fail
  change Code.wp _ _ _ _ (w.alloc (.cells (macCells M P).toArray 39))
  generalize w.alloc (.cells (macCells M P).toArray 39) = w1 at *
  obtain ⟨⟨o0, o1, o14⟩, ⟨o2, o3, o4⟩, ⟨o5, o6, o7⟩, ⟨o8, o9, o10⟩, ⟨o11, o12, o13⟩⟩ := hm1.cells
  go_wp2_with ((with_reducible refine (tree_any P w1).mono ?_); rintro e w2 ⟨rfl, hb⟩; have Hb := Lib.hid (hb1.trans (hb.mono hb1.size)); clear hb)
  go_ret
  exact ⟨rfl, Hb.out⟩
end Go.Proofs.YtkngadbeflepoaaGreat
namespace Go.Proofs.YtkngadbeflepoaaGreat
open Go.RowKit
theorem layMac (ρ : Operand → Value) (x : World) (o : Oper) (h : o.op = .alloc 39) : (execOp ρ o).run Tryz.prog x = .ok (.value (RegL.ptr x.heap.size)) (x.alloc (.cells (macCells macNone none).toArray 39 (0, 0))) := by
  simp only [execOp, h]
  go_simp
  exact ⟨rfl, rfl⟩
/-- The world behind the store of a machine. -/
theorem ma_st {y : World} {gm : Nat} {M0 : MacV} {P0 : Option Addr} (hs : MacAt y gm M0 P0) (M : MacV) (P : Option Addr) :
    MacAt (rowSt y gm 0 (macCells M P)) gm M P ∧ (∀ b, b ≠ gm → (rowSt y gm 0 (macCells M P)).heap[b]? = y.heap[b]?) ∧ (∀ n w0, Below n w0 y → n ≤ gm → Below n w0 (rowSt y gm 0 (macCells M P))) ∧ (∀ X, TreeAt y X → TreeAt (rowSt y gm 0 (macCells M P)) X) :=
  ⟨macSt_at hs M P, fun _ h => rowSt_other h _ _ _, fun _ _ hb h => rowSt_below h _ _ _ hb, fun _ hX => TreeAt.row hs (by decide) _ _ hX⟩
/-- A row of values, stored cell by cell. -/
theorem store_row {P : Program} {g : Nat} {t : TypeId} : ∀ (vs : List Value) (i : Nat) (cur : Array Value) (y : World), y.heap[g]? = some (.cells cur t (0, 0)) → i + vs.length ≤ cur.size → (∀ v ∈ vs, v.oneCell' = true) →
    (storeCells ⟨g, 0, none⟩ vs i).run P y = .ok () (rowSt y g i vs)
  | [], _, _, _, _, _, _ => rfl
  | v :: r, i, cur, y, hg, hl, h1 => by
    have hi : i < cur.size := by simp at hl; omega
    have hadd : (⟨g, 0, none⟩ : Addr).add i = ⟨g, i, none⟩ := by unfold Addr.add; split <;> simp_all
    have hcell : y.cell? ⟨g, i, none⟩ = some cur[i] := by simp [World.cell?, hg, hi]
    have hfro : y.frozen? ⟨g, i, none⟩ = false := by simp [World.frozen?, hg]
    have hst : (store ((⟨g, 0, none⟩ : Addr).add i) v).run P y = .ok () (y.setCell ⟨g, i, none⟩ v) := by
      rw [hadd, run_store P y _ v _ (h1 v (by simp)), hcell]
      simp [hfro]
    have ih := store_row (P := P) r (i + 1) (cur.setIfInBounds i v) (y.setCell ⟨g, i, none⟩ v) (heap_setCell_same _ _ _ _ _ _ hg) (by simp at hl ⊢; omega) (fun x hx => h1 x (by simp [hx]))
    simp only [storeCells, Sem.run_bind, hst, Result.andThen_ok, ih]
    rfl
theorem mac_store {y : World} {g : Nat} {M0 : MacV} {P0 : Option Addr} (hs : MacAt y g M0 P0) {M : MacV} {P : Option Addr} {V : Value} (hV : macV M P = V) :
    V.cells.size = 15 ∧ (storeCells ⟨g, 0, none⟩ V.cells.toList).run Tryz.prog y = .ok () (rowSt y g 0 (macCells M P)) := by
  subst hV
  exact ⟨rfl, store_row (macCells M P) 0 _ y hs (Nat.le_refl _) (by simp [macCells, tabCells, lastCells, Value.oneCell'])⟩
end Go.Proofs.YtkngadbeflepoaaGreat
namespace Go.Proofs.YtkngadbeflepoaaGreat
open Go.RowKit
/-- The region of a number. -/
def findRO (k : Nat) : Code → Option Code
  | .region i o d => if i = k then some (.region i o d) else none
  | .seq a b => match findRO k a with
    | some c => some c
    | none => findRO k b
  | .loop c => findRO k c
  | .block _ c => findRO k c
  | .scope c => findRO k c
  | .cond _ a b => match findRO k a with
    | some c => some c
    | none => findRO k b
  | _ => none
def findR (k : Nat) (c : Code) : Code := (findRO k c).getD .skip
/-- A command lies there, and stays. -/
def CmdStay (w : World) (b o : Nat) (c : CmdV) : Prop :=
  ∀ y, Below w.heap.size w y → y.cell? ⟨b, o, none⟩ = some (.int .u8 (c.client.toNat : Int)) ∧ y.cell? ⟨b, o + 1, none⟩ = some (.int .u32 (c.seq.toNat : Int)) ∧ y.cell? ⟨b, o + 2, none⟩ = some (.int .u8 (c.kind.toNat : Int)) ∧
    y.cell? ⟨b, o + 3, none⟩ = some (.string c.key) ∧ y.cell? ⟨b, o + 4, none⟩ = some (.string c.old) ∧ y.cell? ⟨b, o + 5, none⟩ = some (.string c.fresh) ∧ y.cell? ⟨b, o + 6, none⟩ = some (.int .u8 (c.set.toNat : Int))
theorem cmd_stay {w : World} {a : Option Addr} {len : Nat} {z : List CmdV} (h : CmdsAt w a len z) {i : Nat} (hi : i < len) : ∃ b o, a = some ⟨b, o, none⟩ ∧ b < w.heap.size ∧ CmdStay w b (o + i * 7) (z.getD i default) := by
  obtain ⟨b, o, e, hbl, c0, c1, c2, c3, c4, c5, c6⟩ := cmds_cells h hi
  exact ⟨b, o, e, hbl, fun y hy => ⟨(hy.cell (p := ⟨b, _, none⟩) hbl).trans c0, (hy.cell (p := ⟨b, _, none⟩) hbl).trans c1, (hy.cell (p := ⟨b, _, none⟩) hbl).trans c2, (hy.cell (p := ⟨b, _, none⟩) hbl).trans c3,
    (hy.cell (p := ⟨b, _, none⟩) hbl).trans c4, (hy.cell (p := ⟨b, _, none⟩) hbl).trans c5, (hy.cell (p := ⟨b, _, none⟩) hbl).trans c6⟩⟩
theorem CmdStay.below {w w' : World} {b o : Nat} {c : CmdV} (h : CmdStay w b o c) (hb : Below w.heap.size w w') : CmdStay w' b o c := fun y hy => h y (hb.trans (hy.mono hb.size))
end Go.Proofs.YtkngadbeflepoaaGreat
namespace Go.Proofs.YtkngadbeflepoaaGreat
open Go.RowKit
structure MacOk (M : MacV) : Prop where
  all : M.all < 256
  kv : KvInv M.sh
theorem macFresh_ok {M : MacV} (h : MacOk M) (c : CmdV) : MacOk (macFresh M c).1 := by
  unfold macFresh
  split
  · split
    · exact ⟨h.all, h.kv⟩
    · exact h
  · exact ⟨h.all, (kv_says h.kv c).1⟩
theorem macDo_ok {M : MacV} (h : MacOk M) (c : CmdV) : MacOk (macDo M c).m := by
  unfold macDo
  split
  · split
    · exact ⟨(macFresh_ok h c).all, (macFresh_ok h c).kv⟩
    · exact h
  · exact h
end Go.Proofs.YtkngadbeflepoaaGreat
namespace Go.Proofs.YtkngadbeflepoaaGreat
open Go.RowKit
/-- The machine behind commands. -/
def macsDo (M : MacV) (l : List CmdV) : MacV := l.foldl (fun M c => (macDo M c).m) M
theorem macsDo_ok : ∀ (l : List CmdV) {M : MacV}, MacOk M → MacOk (macsDo M l)
  | [], _, h => h
  | c :: r, _, h => macsDo_ok r (macDo_ok h c)
theorem macsDo_take (M : MacV) (l : List CmdV) {i : Nat} (hi : i < l.length) : macsDo M (l.take (i + 1)) = (macDo (macsDo M (l.take i)) (l.getD i default)).m := by
  unfold macsDo
  rw [List.take_succ_eq_append_getElem hi, List.foldl_append]
  simp [List.getD, List.getElem?_eq_getElem hi]
/-- What lies there in a round of Fold. -/
structure FoldI (w0 : World) (M : MacV) (T : Tr) (w : World) : Prop where
  m : MacAt w w0.heap.size M T.ptr
  z : MacAt w (w0.heap.size + 1) macNone none
  t : TreeAt w T
  sh : T.sh = M.sh
  bel : Below w0.heap.size w0 w
theorem FoldI.below {w0 w w' : World} {M : MacV} {T : Tr} (h : FoldI w0 M T w) (hb : Below w.heap.size w w') : FoldI w0 M T w' := ⟨h.m.below hb, h.z.below hb, h.t.below hb, h.sh, h.bel.trans (hb.mono h.bel.size)⟩
theorem FoldI.set {w0 w : World} {M : MacV} {T : Tr} (h : FoldI w0 M T w) (M2 : MacV) (X : Tr) (hX : TreeAt w X) (hs : X.sh = M2.sh) : FoldI w0 M2 X (rowSt w w0.heap.size 0 (macCells M2 X.ptr)) := by
  obtain ⟨h1, h2, h3, h4⟩ := ma_st h.m M2 X.ptr
  exact ⟨h1, (h2 _ (by omega)).trans h.z, h4 _ hX, hs, h3 _ _ h.bel (Nat.le_refl _)⟩
set_option maxRecDepth 100000 in
set_option maxHeartbeats 16000000 in
theorem fold_any (M : MacV) (T : Tr) (a : Option Addr) (n cap : Nat) (z : List CmdV) (w : World) (hok : MacOk M) (hat : TreeAt w T) (hsh : T.sh = M.sh) (h : CmdsAt w a n z) :
    Calls Tryz.prog 10 #[macV M T.ptr, .slice a n cap] w fun e w' => ∃ X, e = .returned (macV (macsDo M z) X.ptr) ∧ TreeAt w' X ∧ X.sh = (macsDo M z).sh ∧ Below w.heap.size w w' := by
  have hm0 : MacAt (w.alloc (.cells (macCells M T.ptr).toArray 39)) w.heap.size M T.ptr := heap_alloc_new _ _
  have s0 : (w.alloc (.cells (macCells M T.ptr).toArray 39)).heap.size = w.heap.size + 1 := by simp
  have hm1 := hm0.below ((Below.refl _ _).alloc (Nat.le_refl _) (.cells (macCells macNone none).toArray 39))
  have hz1 : MacAt ((w.alloc (.cells (macCells M T.ptr).toArray 39)).alloc (.cells (macCells macNone none).toArray 39)) (w.heap.size + 1) macNone none := by rw [← s0]; exact heap_alloc_new _ _
  have hb := ((Below.refl w.heap.size w).alloc (Nat.le_refl _) (.cells (macCells M T.ptr).toArray 39)).alloc (by simp) (.cells (macCells macNone none).toArray 39)
  have HI := Lib.hid (show FoldI w M T _ from ⟨hm1, hz1, hat.below hb, hsh, hb⟩)
  clear hm0 s0 hm1 hz1 hb hat hsh
  have hlen := h.hlen
  have hmax := h.hmax
  unfold maxLen at hmax
  have H := Lib.hid h; clear h
  have Hok := Lib.hid hok; clear hok
  have Hlen := Lib.hid hlen; clear hlen
  unfold macV
  rw [mac_eta M T.ptr]
  go_enter Tryz.func10, Tryz.ntmps10
  go_upto_region 1 with fail
  change Code.wp _ _ _ _ ((w.alloc (.cells (macCells M T.ptr).toArray 39)).alloc (.cells (macCells macNone none).toArray 39))
  generalize (w.alloc (.cells (macCells M T.ptr).toArray 39)).alloc (.cells (macCells macNone none).toArray 39) = w1 at *
  go_wp2_with fail
  go_loopw [9] (fun s9 wr => ∃ (i : Nat) (N : MacV) (X : Tr), i ≤ n ∧ s9 = .int .i64 (i : Int) ∧ N = macsDo M (z.take i) ∧ FoldI w N X wr) (fun s9 _ => n - (intOf s9).toNat)
  case atStart => exact ⟨0, M, T, by omega, rfl, rfl, HI.out⟩
  case round =>
    clear HI
    obtain ⟨i, N, X, hi, rfl, hN, hI⟩ := hrel
    have HI := Lib.hid hI; clear hI
    have HN := Lib.hid hN; clear hN
    by_cases hlt : i < n
    · have hlt' : (i : Int) < (n : Int) := by omega
      have hsucc := tsucc (n := i) (by omega)
      obtain ⟨b, o, rfl, hbl, hcs⟩ := cmd_stay (H.out.below HI.out.bel) hlt
      have hst := macsDo_take M z (i := i) (by rw [Hlen.out]; exact hlt)
      rw [← HN.out] at hst
      obtain ⟨c, hc⟩ : ∃ c, z.getD i default = c := ⟨_, rfl⟩
      rw [hc] at hcs hst
      have hokN : MacOk N := by rw [HN.out]; exact macsDo_ok _ Hok.out
      have Hcs := Lib.hid hcs; clear hcs hc
      have hcw : CmdAt (wr.alloc (.cells (cmdCells c).toArray 52)) wr.heap.size c := heap_alloc_new _ _
      obtain ⟨c0, c1, c2, c3, c4, c5, c6⟩ := Hcs.out wr (Below.refl _ _)
      have Hst := Lib.hid hst; clear hst
      have HokN := Lib.hid hokN; clear hokN
      go_upto_region 4 with fail
      change Code.wp _ _ _ _ (wr.alloc (.cells (cmdCells c).toArray 52))
      clear c0 c1 c2 c3 c4 c5 c6 Hcs hbl
      have HJ := Lib.hid (HI.out.below ((Below.refl _ _).alloc (Nat.le_refl _) (.cells (cmdCells c).toArray 52)))
      clear HI
      generalize wr.alloc (.cells (cmdCells c).toArray 52) = w2 at *
      generalize wr.heap.size = gc at *
      obtain ⟨c0, c1, c2, c3, c4, c5, c6⟩ := hcw.cells
      clear hcw
      obtain ⟨⟨m0, m1, m14⟩, ⟨m2, m3, m4⟩, ⟨m5, m6, m7⟩, ⟨m8, m9, m10⟩, ⟨m11, m12, m13⟩⟩ := HJ.out.m.cells
      have hd := mdo_any c N X w2 HokN.out.all HJ.out.t HJ.out.sh (by rw [sh_cnt, HJ.out.sh]; have := HokN.out.kv.num; omega)
      obtain ⟨⟨N2, code, text, fresh⟩, hO⟩ : ∃ O, macDo N c = O := ⟨_, rfl⟩
      rw [hO] at hd
      have HO := Lib.hid hO; clear hO
      obtain ⟨P, hP⟩ : ∃ P, X.ptr = P := ⟨_, rfl⟩
      rw [hP] at hd m14
      have HP := Lib.hid hP; clear hP
      unfold macV repV repCells at hd
      rw [mac_eta N P, cmd_eta] at hd
      have Hd := Lib.hid hd; clear hd
      go_upto_region 5 with ((with_reducible refine Hd.out.mono ?_); rintro e w5 ⟨Y, rfl, hY⟩; clear Hd; have HY := Lib.hid (And.intro hY.at_ (And.intro hY.bel (show Y.sh = N2.sh from hY.shp))); clear hY; rw [mac_eta]; have HK := Lib.hid (HJ.out.below HY.out.2.1); clear m0 m1 m2 m3 m4 m5 m6 m7 m8 m9 m10 m11 m12 m13 m14 c0 c1 c2 c3 c4 c5 c6; obtain ⟨⟨m0, m1, m14⟩, ⟨m2, m3, m4⟩, ⟨m5, m6, m7⟩, ⟨m8, m9, m10⟩, ⟨m11, m12, m13⟩⟩ := HK.out.m.cells; have q0 := HK.out.m.thawed 0; have q1 := HK.out.m.thawed 1; have q2 := HK.out.m.thawed 2; have q3 := HK.out.m.thawed 3; have q4 := HK.out.m.thawed 4; have q5 := HK.out.m.thawed 5; have q6 := HK.out.m.thawed 6; have q7 := HK.out.m.thawed 7; have q8 := HK.out.m.thawed 8; have q9 := HK.out.m.thawed 9; have q10 := HK.out.m.thawed 10; have q11 := HK.out.m.thawed 11; have q12 := HK.out.m.thawed 12; have q13 := HK.out.m.thawed 13; have q14 := HK.out.m.thawed 14)
      change Code.wp _ _ _ _ (rowSt w5 w.heap.size 0 (macCells N2 Y.ptr))
      have HE := Lib.hid (HK.out.set N2 Y HY.out.1 HY.out.2.2)
      clear m0 m1 m2 m3 m4 m5 m6 m7 m8 m9 m10 m11 m12 m13 m14 q0 q1 q2 q3 q4 q5 q6 q7 q8 q9 q10 q11 q12 q13 q14 HK HY
      generalize rowSt w5 w.heap.size 0 (macCells N2 Y.ptr) = w6 at *
      go_wp2_with fail
      go_roundw
      case rel => exact ⟨i + 1, N2, Y, hlt, rfl, by rw [Hst.out, HO.out], HE.out⟩
      case measure => simp [intOf]; omega
    · have hlt' : ¬ (i : Int) < (n : Int) := by omega
      have hall : N = macsDo M z := by rw [HN.out, List.take_of_length_le (by rw [Hlen.out]; omega)]
      subst hall
      obtain ⟨⟨m0, m1, m14⟩, ⟨m2, m3, m4⟩, ⟨m5, m6, m7⟩, ⟨m8, m9, m10⟩, ⟨m11, m12, m13⟩⟩ := HI.out.m.cells
      obtain ⟨⟨n0, n1, n14⟩, ⟨n2, n3, n4⟩, ⟨n5, n6, n7⟩, ⟨n8, n9, n10⟩, ⟨n11, n12, n13⟩⟩ := HI.out.z.cells
      have q0 := HI.out.z.thawed 0
      have q1 := HI.out.z.thawed 1
      have q2 := HI.out.z.thawed 2
      have q3 := HI.out.z.thawed 3
      have q4 := HI.out.z.thawed 4
      have q5 := HI.out.z.thawed 5
      have q6 := HI.out.z.thawed 6
      have q7 := HI.out.z.thawed 7
      have q8 := HI.out.z.thawed 8
      have q9 := HI.out.z.thawed 9
      have q10 := HI.out.z.thawed 10
      have q11 := HI.out.z.thawed 11
      have q12 := HI.out.z.thawed 12
      have q13 := HI.out.z.thawed 13
      have q14 := HI.out.z.thawed 14
      obtain ⟨h1, h2, h3, h4⟩ := ma_st HI.out.z (macsDo M z) X.ptr
      have HE := Lib.hid (And.intro h1 (And.intro (h4 _ HI.out.t) (h3 _ _ HI.out.bel (by omega))))
      clear h1 h2 h3 h4
      have Hs := Lib.hid HI.out.sh
      go_wp2_with fail
      change bodyPost _ _ _ _ _ (rowSt wr (w.heap.size + 1) 0 (macCells (macsDo M z) X.ptr))
      clear m0 m1 m2 m3 m4 m5 m6 m7 m8 m9 m10 m11 m12 m13 m14 n0 n1 n2 n3 n4 n5 n6 n7 n8 n9 n10 n11 n12 n13 n14 q0 q1 q2 q3 q4 q5 q6 q7 q8 q9 q10 q11 q12 q13 q14 HI HN
      generalize rowSt wr (w.heap.size + 1) 0 (macCells (macsDo M z) X.ptr) = w9 at *
      generalize macsDo M z = N at *
      obtain ⟨⟨o0, o1, o14⟩, ⟨o2, o3, o4⟩, ⟨o5, o6, o7⟩, ⟨o8, o9, o10⟩, ⟨o11, o12, o13⟩⟩ := HE.out.1.cells
      refine bodyPost_ret (v := .agg (macCells N X.ptr).toArray) (by rw [mac_eta]; simp [results, Tryz.results10, go_sem, o0, o1, o2, o3, o4, o5, o6, o7, o8, o9, o10, o11, o12, o13, o14] <;> rfl) rfl ?_
      exact ⟨X, rfl, HE.out.2.1, Hs.out, HE.out.2.2⟩
end Go.Proofs.YtkngadbeflepoaaGreat
namespace Go.Proofs.YtkngadbeflepoaaGreat
open Go.RowKit
set_option maxRecDepth 100000 in
set_option maxHeartbeats 4000000 in
theorem mtable_any (M : MacV) (P : Option Addr) (w : World) : Calls Tryz.prog 18 #[macV M P] w fun e w' => e = .returned (.agg (tabCells M.tab).toArray) ∧ Below w.heap.size w w' := by
  have hb1 := (Below.refl w.heap.size w).alloc (Nat.le_refl _) (.cells (macCells M P).toArray 39)
  have hm0 : MacAt (w.alloc (.cells (macCells M P).toArray 39)) w.heap.size M P := heap_alloc_new _ _
  have hs1 : (w.alloc (.cells (macCells M P).toArray 39)).heap.size = w.heap.size + 1 := by simp
  have hm1 := hm0.below ((Below.refl _ _).alloc (Nat.le_refl _) (.cells (tabCells tabNone).toArray 32))
  have hb2 := hb1.alloc hb1.size (.cells (tabCells tabNone).toArray 32)
  have hZ : TabAt ((w.alloc (.cells (macCells M P).toArray 39)).alloc (.cells (tabCells tabNone).toArray 32)) (w.heap.size + 1) tabNone := by rw [← hs1]; exact heap_alloc_new _ _
  clear hb1 hm0 hs1
  unfold macV
  go_enter Tryz.func18, Tryz.ntmps18
  go_upto_region 1 with fail
  change Code.wp _ _ _ _ ((w.alloc (.cells (macCells M P).toArray 39)).alloc (.cells (tabCells tabNone).toArray 32))
  generalize (w.alloc (.cells (macCells M P).toArray 39)).alloc (.cells (tabCells tabNone).toArray 32) = w1 at *
  obtain ⟨⟨m0, m1, m14⟩, ⟨m2, m3, m4⟩, ⟨m5, m6, m7⟩, ⟨m8, m9, m10⟩, ⟨m11, m12, m13⟩⟩ := hm1.cells
  obtain ⟨⟨z0, z1, z2⟩, ⟨z3, z4, z5⟩, ⟨z6, z7, z8⟩, ⟨z9, z10, z11⟩⟩ := hZ.cells
  have g0 := hZ.thawed 0
  have g1 := hZ.thawed 1
  have g2 := hZ.thawed 2
  have g3 := hZ.thawed 3
  have g4 := hZ.thawed 4
  have g5 := hZ.thawed 5
  have g6 := hZ.thawed 6
  have g7 := hZ.thawed 7
  have g8 := hZ.thawed 8
  have g9 := hZ.thawed 9
  have g10 := hZ.thawed 10
  have g11 := hZ.thawed 11
  have HT5 := Lib.hid (tabSt_at hZ M.tab)
  have Hb5 := Lib.hid (rowSt_below (g := w.heap.size + 1) (by omega) (tabCells M.tab) 0 _ hb2)
  clear hm1 hZ hb2
  go_wp2_with fail
  change bodyPost _ _ _ _ _ (rowSt w1 (w.heap.size + 1) 0 (tabCells M.tab))
  clear m0 m1 m2 m3 m4 m5 m6 m7 m8 m9 m10 m11 m12 m13 m14 z0 z1 z2 z3 z4 z5 z6 z7 z8 z9 z10 z11 g0 g1 g2 g3 g4 g5 g6 g7 g8 g9 g10 g11
  generalize rowSt w1 (w.heap.size + 1) 0 (tabCells M.tab) = w5 at *
  obtain ⟨⟨a0, a1, a2⟩, ⟨b0, b1, b2⟩, ⟨c0, c1, c2⟩, ⟨d0, d1, d2⟩⟩ := HT5.out.cells
  refine bodyPost_ret (v := .agg (tabCells M.tab).toArray) (by rw [tab_eta]; simp [results, Tryz.results18, go_sem, a0, a1, a2, b0, b1, b2, c0, c1, c2, d0, d1, d2] <;> rfl) rfl ?_
  exact ⟨rfl, Hb5.out⟩
end Go.Proofs.YtkngadbeflepoaaGreat
namespace Go.Proofs.YtkngadbeflepoaaGreat
open Go.RowKit
theorem infoLast : (Tryz.prog.info? 30).map (fun i => i.size) = some 3 := by kernel_rfl
end Go.Proofs.YtkngadbeflepoaaGreat
