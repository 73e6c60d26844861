/- Play: Parse. Condition: the text is not too long; the library's variables hold what the program's text lays. -/
import Derived.Test.YtjjlodeiejobdaaDoorPyG
import Derived.Test.YtjjlodeiejobdaaDoorFlat
namespace Go.Proofs.YtjjlodeiejobdaaDoor
open Go.RowKit Go.Shelf Go.Deep
attribute [local go_sem] Oper.semAt_some
theorem ln_stops (n Bt : Nat) (x : ByteArray) (hxs : x.size ≤ 1000000) (w : World) (ht : w.heap[Bt]? = some (.cells #[.string x] 9 (0, 0))) :
    SeqZ Fence.wide n Tryd.prog 38 #[.pointer (some ⟨Bt, 0, none⟩)] (fun p : Nat × ByteArray => #[Value.int .i64 (p.1 : Int), .string p.2]) (fun _ => False) 7 (fun ys => ys = fltB 0 (pcsB 10 x)) (fun pre => pre <+: fltB 0 (pcsB 10 x)) w := by
  intro l J Jx W Z hZ hW hJ hJx hY h0
  have h := ln_in l Bt x hxs Z J Jx W (fun r => by rw [hZ r]; simp) hJ hJx (fun pre p W1 hj hz hp m => by
    obtain ⟨fn, tmps, assign, body, hy, hR⟩ := hY pre p W1 hj hz hp
    exact ⟨fn, tmps, assign, body, hy, round_any rfl hR⟩) ((hW.block Bt (Array.getElem?_eq_some_iff.1 ht).1).trans ht) h0
  exact callsIn_wide.2 (callsIn_wide.1 h)
theorem lines_in (n : Nat) (x : ByteArray) (w : World) :
    CallsIn Fence.wide n Tryd.prog 21 #[.string x] w fun e w' => e = .returned (.func (.func 38) #[] #[.pointer (some ⟨w.heap.size, 0, none⟩)]) ∧ w' = w.alloc (.cells #[.string x] 9) := by
  refine callsIn_of_wp Tryd.func21 rfl trivial ?_ rfl
  simp only [Tryd.ntmps21, List.size_toArray, List.length_cons, List.length_nil, Nat.reduceAdd, Nat.reduceSub, Array.replicate_succ, Array.replicate_zero, List.push_toArray, List.append_toArray, List.nil_append, List.cons_append]
  gi_wp2
  go_ret
  exact ⟨rfl, rfl⟩
section
variable {F : Fence} {n : Nat} {P : Program} {ops : Array Oper} {rest : List Oper} {op : Oper} {a : Act} {w : World} {Q : Exit → Act → World → Prop}
theorem wpListIn_load_row (hgd : op.guard = none) (ty : TypeId) (x : Operand) (ho : op.op = .load ty x)
    (b o : Nat) (hx : a.eval x = .pointer (some ⟨b, o, none⟩)) (cs : List Value) (d : TypeDesc) (hc : w.rangeAt b o cs) (hu : P.underlying ty = some d) (hd : d.isRow = true) (hi : (P.info? ty).map (·.size) = some cs.length)
    (h : wpListIn F n P ops Q rest (a.put op.dst (.agg cs.toArray)) w) : wpListIn F n P ops Q (op :: rest) a w := by
  refine wpListIn_plain hgd fun K hK => ?_
  unfold Oper.wpIn
  refine ⟨by simp [Oper.about, ho], ?_⟩
  rw [Oper.semAt_plain F _ _ (by rw [ho]; intro c hc'; cases hc')]
  simp only [execOp, ho, hx, Instr.loadAt, Instr.sureAddr, Sem.run_bind, Sem.run_pure, Result.andThen_ok, run_loadVar_mid w b o ty cs d hc hu hd hi]
  exact hK _ _ h
theorem wpListIn_store_row (hgd : op.guard = none) (ty : TypeId) (x y : Operand) (ho : op.op = .store ty x y)
    (b o : Nat) (cells : Array Value) (hx : a.eval x = .pointer (some ⟨b, o, none⟩)) (hy : a.eval y = .agg cells)
    (ht : w.there b o cells.size) (hi : (P.info? ty).map (·.size) = some cells.size) (h1 : cells.all (·.oneCell') = true)
    (h : wpListIn F n P ops Q rest (a.put op.dst undef) (w.setCells b o cells.toList)) : wpListIn F n P ops Q (op :: rest) a w := by
  refine wpListIn_plain hgd fun K hK => ?_
  unfold Oper.wpIn
  refine ⟨by simp [Oper.about, ho], ?_⟩
  rw [Oper.semAt_plain F _ _ (by rw [ho]; intro c hc'; cases hc')]
  simp only [execOp, ho, hx, hy, Instr.storeAt, Instr.sureAddr, Sem.run_bind, Sem.run_pure, Result.andThen_ok, run_storeVar_mid w b o ty cells ht hi h1]
  exact hK _ _ h
end
/-- What Parse tells. -/
def prsL : List (Nat × ByteArray) → List StpV → List StpV × Nat × Nat
  | [], acc => (acc, 0, 0)
  | (n, p) :: r, acc => match rdL p.data.toList with
    | none => ([], n, 4)
    | some s => if acc.length = 400 then ([], n, 6) else prsL r (acc ++ [s])
theorem flt_mem : ∀ {i : Nat} {l : List ByteArray} {p : Nat × ByteArray}, p ∈ fltB i l → p.2 ∈ l
  | i, q :: r, p, h => by
    have h : p ∈ (if saysB q then (i + 1, q) :: fltB (i + 1) r else fltB (i + 1) r) := h
    split at h
    · rcases List.mem_cons.1 h with rfl | h
      · exact List.mem_cons_self ..
      · exact List.mem_cons_of_mem _ (flt_mem h)
    · exact List.mem_cons_of_mem _ (flt_mem h)
def flatS (l : List StpV) : List Value := l.flatMap stpC
theorem flatS_snoc (l : List StpV) (s : StpV) : flatS (l ++ [s]) = flatS l ++ stpC s := by simp [flatS]
def StV (w : World) (v : Value) (l : List StpV) : Prop := ∃ a c, v = .slice a l.length c ∧ SliceAt 11 stpC w a l.length l
def PrsR (R : List StpV × Nat × Nat) (w : World) (e : Ending) (w' : World) : Prop := Below w.heap.size w w' ∧ ∃ v, e = .returned (.tuple #[v, .int .i64 (R.2.1 : Int), .int .i64 (R.2.2 : Int)]) ∧ StV w' v R.1
theorem own_z {A B : World} {base k n : Nat} {e : TypeId} {v : Value} {xs : List Value} {row : Option Nat} (h : A.ownsRow base e k v n xs) (hg : A.grownBy B row) (hr : ∀ r, row = some r → r < base) : B.ownsRow base e k v n xs := by
  obtain ⟨h1, h2⟩ := h
  refine ⟨h1, h2.imp id ?_⟩
  rintro ⟨g, cap, cur, hv, hb, hq, r⟩
  exact ⟨g, cap, cur, hv, hb, (hg.block g (Array.getElem?_eq_some_iff.1 hq).1 (fun q => by have := hr g q.symm; omega)).trans hq, r⟩
/-- Between two rounds. -/
structure PrI (w : World) (all : List (Nat × ByteArray)) (pre : List (Nat × ByteArray)) (W : World) (acc : List StpV) (v : Value) : Prop where
  spec : prsL all [] = prsL (all.drop pre.length) acc
  len : acc.length ≤ 400
  r0 : W.heap[w.heap.size]? = some (.cells #[.slice none 0 0] 22 (0, 0))
  r1 : W.heap[w.heap.size + 1]? = some (.cells #[.int .i64 0] 3 (0, 0))
  r2 : W.heap[w.heap.size + 2]? = some (.cells #[.int .i64 0] 25 (0, 0))
  r3 : W.heap[w.heap.size + 3]? = some (.cells #[v] 22 (0, 0))
  own : W.ownsRow (w.heap.size + 14) 39 11 v acc.length (flatS acc)
  bel : Below w.heap.size w W
/-- A round has left. -/
def PrX (w : World) (all : List (Nat × ByteArray)) (W : World) : Prop := ∃ n e : Nat, prsL all [] = ([], n, e) ∧ W.heap[w.heap.size]? = some (.cells #[.slice none 0 0] 22 (0, 0)) ∧ W.heap[w.heap.size + 1]? = some (.cells #[.int .i64 (n : Int)] 3 (0, 0)) ∧ W.heap[w.heap.size + 2]? = some (.cells #[.int .i64 (e : Int)] 25 (0, 0)) ∧ Below w.heap.size w W
theorem PrI.turn {w A B : World} {all pre : List (Nat × ByteArray)} {acc : List StpV} {v : Value} {row : Option Nat} (h : PrI w all pre A acc v) (hg : A.grownBy B row) (hr : ∀ r, row = some r → w.heap.size + 4 ≤ r ∧ r < w.heap.size + 14) : PrI w all pre B acc v := by
  have up : ∀ {q : Nat} {o : Obj}, A.heap[q]? = some o → q < w.heap.size + 4 → B.heap[q]? = some o := fun {q o} h hq => (hg.block q (Array.getElem?_eq_some_iff.1 h).1 (fun e => by have := hr q e.symm; omega)).trans h
  exact ⟨h.spec, h.len, up h.r0 (by omega), up h.r1 (by omega), up h.r2 (by omega), up h.r3 (by omega), own_z h.own hg (fun r e => (hr r e).2), h.bel.trans ⟨hg.os, hg.tape, hg.output, hg.size, fun q hq => hg.block q (Nat.lt_of_lt_of_le hq h.bel.size) (fun e => by have := hr q e.symm; omega)⟩⟩
theorem PrI.blw {w A B : World} {all pre : List (Nat × ByteArray)} {acc : List StpV} {v : Value} (h : PrI w all pre A acc v) (hb : Below A.heap.size A B) : PrI w all pre B acc v := by
  have up : ∀ {q : Nat} {o : Obj}, A.heap[q]? = some o → B.heap[q]? = some o := fun {q o} h => (hb.block q (Array.getElem?_eq_some_iff.1 h).1).trans h
  exact ⟨h.spec, h.len, up h.r0, up h.r1, up h.r2, up h.r3, own_blw h.own hb, h.bel.trans (hb.mono h.bel.size)⟩
structure PrC (w W : World) (v : Value) : Prop where
  c0 : W.cell? ⟨w.heap.size, 0, none⟩ = some (.slice none 0 0)
  f0 : W.frozen? ⟨w.heap.size, 0, none⟩ = false
  c1 : W.cell? ⟨w.heap.size + 1, 0, none⟩ = some (.int .i64 0)
  f1 : W.frozen? ⟨w.heap.size + 1, 0, none⟩ = false
  c2 : W.cell? ⟨w.heap.size + 2, 0, none⟩ = some (.int .i64 0)
  f2 : W.frozen? ⟨w.heap.size + 2, 0, none⟩ = false
  c3 : W.cell? ⟨w.heap.size + 3, 0, none⟩ = some v
  f3 : W.frozen? ⟨w.heap.size + 3, 0, none⟩ = false
theorem PrI.cells {w W : World} {all pre : List (Nat × ByteArray)} {acc : List StpV} {v : Value} (h : PrI w all pre W acc v) : PrC w W v :=
  ⟨cell_of_row _ _ _ _ _ _ h.r0, thaw_row 0 h.r0, cell_of_row _ _ _ _ _ _ h.r1, thaw_row 0 h.r1, cell_of_row _ _ _ _ _ _ h.r2, thaw_row 0 h.r2, cell_of_row _ _ _ _ _ _ h.r3, thaw_row 0 h.r3⟩
theorem PrI.leave {w W : World} {all pre : List (Nat × ByteArray)} {acc : List StpV} {v : Value} (h : PrI w all pre W acc v) {n e : Nat} (hs : prsL all [] = ([], n, e)) :
    KeptZ (fun r => w.heap.size + 4 ≤ r) W (((W.setCell ⟨w.heap.size, 0, none⟩ (.slice none 0 0)).setCell ⟨w.heap.size + 1, 0, none⟩ (.int .i64 (n : Int))).setCell ⟨w.heap.size + 2, 0, none⟩ (.int .i64 (e : Int))) ∧
    PrX w all (((W.setCell ⟨w.heap.size, 0, none⟩ (.slice none 0 0)).setCell ⟨w.heap.size + 1, 0, none⟩ (.int .i64 (n : Int))).setCell ⟨w.heap.size + 2, 0, none⟩ (.int .i64 (e : Int))) := by
  have k1 : ∀ (y : World) (g : Nat) (u : Value) (q : Nat), q ≠ g → (y.setCell ⟨g, 0, none⟩ u).heap[q]? = y.heap[q]? := fun y g u q hq => Below.heap_setCell y ⟨g, 0, none⟩ u q hq
  refine ⟨fun r o hr ho => ?_, n, e, hs, ?_, ?_, ?_, ?_⟩
  · have hr : w.heap.size + 4 ≤ r := hr
    rw [k1 _ _ _ _ (by omega), k1 _ _ _ _ (by omega), k1 _ _ _ _ (by omega)]
    exact ho
  · rw [k1 _ _ _ _ (by omega), k1 _ _ _ _ (by omega)]
    exact heap_setCell_same W _ 0 _ _ _ h.r0
  · rw [k1 _ _ _ _ (by omega)]
    exact heap_setCell_same _ _ 0 #[.int .i64 0] _ _ ((k1 _ _ _ _ (by omega)).trans h.r1)
  · exact heap_setCell_same _ _ 0 #[.int .i64 0] _ _ ((k1 _ _ _ _ (by omega)).trans ((k1 _ _ _ _ (by omega)).trans h.r2))
  · exact ((h.bel.setCell (p := ⟨w.heap.size, 0, none⟩) (Nat.le_refl _) _).setCell (p := ⟨w.heap.size + 1, 0, none⟩) (by simp) _).setCell (p := ⟨w.heap.size + 2, 0, none⟩) (by simp) _
theorem PrI.fin {w W : World} {all : List (Nat × ByteArray)} {acc : List StpV} {A : Option Addr} {c D : Nat} (h : PrI w all all W acc (.slice A acc.length c)) (hD : w.heap.size + 4 ≤ D ∧ D < w.heap.size + 14) (hK : W.heap[D]? = some (.deferred (some []))) :
    (((W.setCell ⟨w.heap.size, 0, none⟩ (.slice A acc.length c)).setCell ⟨w.heap.size + 1, 0, none⟩ (.int .i64 0)).setCell ⟨w.heap.size + 2, 0, none⟩ (.int .i64 0)).heap[D]? = some (.deferred (some [])) ∧
    ∃ Y : World, Y = (((W.setCell ⟨w.heap.size, 0, none⟩ (.slice A acc.length c)).setCell ⟨w.heap.size + 1, 0, none⟩ (.int .i64 0)).setCell ⟨w.heap.size + 2, 0, none⟩ (.int .i64 0)).putObj D (.deferred none) ∧
      Y.cell? ⟨w.heap.size, 0, none⟩ = some (.slice A acc.length c) ∧ Y.cell? ⟨w.heap.size + 1, 0, none⟩ = some (.int .i64 0) ∧ Y.cell? ⟨w.heap.size + 2, 0, none⟩ = some (.int .i64 0) ∧
      PrsR (prsL all []) w (.returned (.tuple #[.slice A acc.length c, .int .i64 0, .int .i64 0])) Y := by
  have k1 : ∀ (y : World) (g : Nat) (u : Value) (q : Nat), q ≠ g → (y.setCell ⟨g, 0, none⟩ u).heap[q]? = y.heap[q]? := fun y g u q hq => Below.heap_setCell y ⟨g, 0, none⟩ u q hq
  have kp : ∀ (y : World) (o : Obj) (q : Nat), q ≠ D → (y.putObj D o).heap[q]? = y.heap[q]? := fun y o q hq => World.putObj_heap_other (fun e => hq (by first | exact e | exact e.symm))
  have hb1 : Below w.heap.size w (((W.setCell ⟨w.heap.size, 0, none⟩ (.slice A acc.length c)).setCell ⟨w.heap.size + 1, 0, none⟩ (.int .i64 0)).setCell ⟨w.heap.size + 2, 0, none⟩ (.int .i64 0)) := ((h.bel.setCell (p := ⟨w.heap.size, 0, none⟩) (Nat.le_refl _) _).setCell (p := ⟨w.heap.size + 1, 0, none⟩) (by simp) _).setCell (p := ⟨w.heap.size + 2, 0, none⟩) (by simp) _
  refine ⟨?_, _, rfl, ?_, ?_, ?_, ?_⟩
  · rw [k1 _ _ _ _ (by omega), k1 _ _ _ _ (by omega), k1 _ _ _ _ (by omega)]; exact hK
  · refine cell_of_row _ _ _ #[.slice A acc.length c] 22 (0, 0) ?_
    rw [kp _ _ _ (by omega), k1 _ _ _ _ (by omega), k1 _ _ _ _ (by omega)]
    exact heap_setCell_same W _ 0 #[.slice none 0 0] _ _ h.r0
  · refine cell_of_row _ _ _ #[.int .i64 0] 3 (0, 0) ?_
    rw [kp _ _ _ (by omega), k1 _ _ _ _ (by omega)]
    exact heap_setCell_same _ _ 0 #[.int .i64 0] _ _ ((k1 _ _ _ _ (by omega)).trans h.r1)
  · refine cell_of_row _ _ _ #[.int .i64 0] 25 (0, 0) ?_
    rw [kp _ _ _ (by omega)]
    exact heap_setCell_same _ _ 0 #[.int .i64 0] _ _ ((k1 _ _ _ _ (by omega)).trans ((k1 _ _ _ _ (by omega)).trans h.r2))
  · have hspec : prsL all [] = (acc, 0, 0) := by rw [h.spec, List.drop_length]; rfl
    rw [hspec]
    refine ⟨hb1.trans ⟨rfl, rfl, rfl, by simp, fun q hq => kp _ _ _ (by omega)⟩, _, rfl, A, c, rfl, ?_⟩
    have ho := own_z (row := some D) (own_z (row := some (w.heap.size + 2)) (own_z (row := some (w.heap.size + 1)) (own_z (row := some w.heap.size) h.own (grown_set W _ (.slice A acc.length c)) (fun r e => by cases e; omega)) (grown_set _ _ (.int .i64 0)) (fun r e => by cases e; omega)) (grown_set _ _ (.int .i64 0)) (fun r e => by cases e; omega)) (grownBy_putObj' _ D (.deferred none)) (fun r e => by cases e; exact hD.2)
    exact own_slice (enc := stpC) (fun _ => rfl) ho rfl (Nat.le_trans (show acc.length ≤ 400 from h.len) (by decide))
theorem PrX.fin {w W : World} {all : List (Nat × ByteArray)} {D : Nat} (h : PrX w all W) (hD : w.heap.size + 4 ≤ D) :
    ∃ (Y : World) (n e : Nat), Y = W.putObj D (.deferred none) ∧ Y.cell? ⟨w.heap.size, 0, none⟩ = some (.slice none 0 0) ∧ Y.cell? ⟨w.heap.size + 1, 0, none⟩ = some (.int .i64 (n : Int)) ∧ Y.cell? ⟨w.heap.size + 2, 0, none⟩ = some (.int .i64 (e : Int)) ∧
      PrsR (prsL all []) w (.returned (.tuple #[.slice none 0 0, .int .i64 (n : Int), .int .i64 (e : Int)])) Y := by
  obtain ⟨n, e, h1, h2, h3, h4, h5⟩ := h
  have kp : ∀ (y : World) (o : Obj) (q : Nat), q ≠ D → (y.putObj D o).heap[q]? = y.heap[q]? := fun y o q hq => World.putObj_heap_other (fun e => hq (by first | exact e | exact e.symm))
  refine ⟨_, n, e, rfl, cell_of_row _ _ _ _ _ _ ((kp _ _ _ (by omega)).trans h2), cell_of_row _ _ _ _ _ _ ((kp _ _ _ (by omega)).trans h3), cell_of_row _ _ _ _ _ _ ((kp _ _ _ (by omega)).trans h4), ?_⟩
  rw [h1]
  exact ⟨h5.trans ⟨rfl, rfl, rfl, by simp, fun q hq => kp _ _ _ (by omega)⟩, _, rfl, none, 0, rfl, rfl, Nat.zero_le _, fun i x hx => by simp at hx⟩
theorem infoT : (Tryd.prog.info? 39).map (fun i => (i.zero, i.size, i.bytes)) = some (some (.agg (stpC (stp0 0 0)).toArray), 11, 88) := by kernel_rfl
theorem cells_newS (w : World) (cs : List Value) (t : TypeId) : ∀ j u, cs[j]? = some u → (w.alloc (.cells cs.toArray t)).cell? ((⟨w.heap.size, 0, none⟩ : Addr).add j) = some u := by
  intro j u hj
  rw [WideShapes.add_plain]
  show (w.alloc (.cells cs.toArray t)).cell? ⟨w.heap.size, 0 + j, none⟩ = _
  rw [World.cell?_alloc_new]
  simpa using hj
theorem PrI.next {w W W4 : World} {all pre : List (Nat × ByteArray)} {p : Nat × ByteArray} {acc : List StpV} {s : StpV} {v v4 : Value} {o : Obj} (h : PrI w all pre W acc v) (hs : prsL (all.drop pre.length) acc = prsL (all.drop (pre ++ [p]).length) (acc ++ [s])) (hl : acc.length ≠ 400)
    (hown : W4.ownsRow (w.heap.size + 14) 39 11 v4 (acc.length + 1) (flatS acc ++ stpC s)) (hg : (W.alloc o).grownBy W4 v.ownBlock) (hbig : w.heap.size + 14 ≤ W.heap.size) :
    KeptZ (fun r => w.heap.size + 4 ≤ r ∧ r < w.heap.size + 14) W (W4.setCell ⟨w.heap.size + 3, 0, none⟩ v4) ∧ PrI w all (pre ++ [p]) (W4.setCell ⟨w.heap.size + 3, 0, none⟩ v4) (acc ++ [s]) v4 := by
  have hge := fun k hk => (World.ownsRow.lt h.own k hk).1
  have up : ∀ {q : Nat} {o' : Obj}, q < w.heap.size + 14 → W.heap[q]? = some o' → W4.heap[q]? = some o' := fun {q o'} hq h' => (hg.block q (by simp; omega) (fun e => by have := hge q e.symm; omega)).trans ((Below.heap_alloc _ _ _ (by omega)).trans h')
  have k1 : ∀ (q : Nat), q ≠ w.heap.size + 3 → (W4.setCell ⟨w.heap.size + 3, 0, none⟩ v4).heap[q]? = W4.heap[q]? := fun q hq => Below.heap_setCell W4 ⟨w.heap.size + 3, 0, none⟩ v4 q hq
  have hb4 : Below w.heap.size w W4 := by
    have hb := h.bel.alloc h.bel.size o
    exact hb.trans ⟨hg.os, hg.tape, hg.output, hg.size, fun q hq => hg.block q (Nat.lt_of_lt_of_le hq hb.size) (fun e => by have := hge q e.symm; omega)⟩
  refine ⟨fun r o' hr ho => (k1 r (by have hr : w.heap.size + 4 ≤ r ∧ r < w.heap.size + 14 := hr; omega)).trans (up (by have hr : w.heap.size + 4 ≤ r ∧ r < w.heap.size + 14 := hr; omega) ho), h.spec.trans hs, ?_, ?_, ?_, ?_, ?_, ?_, ?_⟩
  · have := h.len; rw [List.length_append, List.length_singleton]; omega
  · exact (k1 _ (by omega)).trans (up (by omega) h.r0)
  · exact (k1 _ (by omega)).trans (up (by omega) h.r1)
  · exact (k1 _ (by omega)).trans (up (by omega) h.r2)
  · exact heap_setCell_same W4 _ 0 #[v] _ _ (up (by omega) h.r3)
  · rw [List.length_append, List.length_singleton, flatS_snoc]
    exact own_z (row := some (w.heap.size + 3)) hown (grown_set W4 _ _) (fun r e => by cases e; omega)
  · exact hb4.setCell (p := ⟨w.heap.size + 3, 0, none⟩) (by simp) _
theorem grow_size {B : Nat} {a b : World} {o : Obj} (h : B ≤ a.heap.size) (h2 : a.heap.size ≤ b.heap.size) : B ≤ (b.alloc o).heap.size := by
  rw [World.size_alloc]; omega
theorem own_slc {w : World} {base : Nat} {e : TypeId} {k : Nat} {v : Value} {n : Nat} {xs : List Value} (h : w.ownsRow base e k v n xs) : ∃ A c, v = .slice A n c := by
  rcases h.2 with ⟨rfl, rfl⟩ | ⟨g, cap, cur, rfl, _⟩
  · exact ⟨none, 0, rfl⟩
  · exact ⟨_, _, rfl⟩
theorem PrX.turn {w A B : World} {all : List (Nat × ByteArray)} {row : Option Nat} (h : PrX w all A) (hg : A.grownBy B row) (hr : ∀ r, row = some r → w.heap.size + 4 ≤ r) : PrX w all B := by
  obtain ⟨n, e, h1, h2, h3, h4, h5⟩ := h
  have up : ∀ {q : Nat} {o : Obj}, A.heap[q]? = some o → q < w.heap.size + 4 → B.heap[q]? = some o := fun {q o} h hq => (hg.block q (Array.getElem?_eq_some_iff.1 h).1 (fun e => by have := hr q e.symm; omega)).trans h
  exact ⟨n, e, h1, up h2 (by omega), up h3 (by omega), up h4 (by omega), h5.trans ⟨hg.os, hg.tape, hg.output, hg.size, fun q hq => hg.block q (Nat.lt_of_lt_of_le hq h5.size) (fun e => by have := hr q e.symm; omega)⟩⟩
theorem prs_bad {all pre : List (Nat × ByteArray)} {x : Nat × ByteArray} {acc : List StpV} (h : (pre ++ [x]) <+: all) (hr : rdL x.2.data.toList = none) : prsL (all.drop pre.length) acc = ([], x.1, 4) := by
  obtain ⟨c, rfl⟩ := h
  rw [List.append_assoc, List.drop_left]
  show (match rdL x.2.data.toList with | none => _ | some s => _) = _
  rw [hr]
theorem prs_full {all pre : List (Nat × ByteArray)} {x : Nat × ByteArray} {acc : List StpV} {s : StpV} (h : (pre ++ [x]) <+: all) (hr : rdL x.2.data.toList = some s) (hl : acc.length = 400) : prsL (all.drop pre.length) acc = ([], x.1, 6) := by
  obtain ⟨c, rfl⟩ := h
  rw [List.append_assoc, List.drop_left]
  show (match rdL x.2.data.toList with | none => _ | some s => _) = _
  rw [hr]
  exact if_pos hl
theorem prs_next {all pre : List (Nat × ByteArray)} {x : Nat × ByteArray} {acc : List StpV} {s : StpV} (h : (pre ++ [x]) <+: all) (hr : rdL x.2.data.toList = some s) (hl : acc.length ≠ 400) : prsL (all.drop pre.length) acc = prsL (all.drop (pre ++ [x]).length) (acc ++ [s]) := by
  obtain ⟨c, rfl⟩ := h
  rw [List.drop_left, List.append_assoc, List.drop_left]
  show (match rdL x.2.data.toList with | none => _ | some s => _) = _
  rw [hr]
  exact if_neg hl
end Go.Proofs.YtjjlodeiejobdaaDoor
