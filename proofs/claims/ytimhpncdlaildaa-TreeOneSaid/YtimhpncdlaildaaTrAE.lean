/- Shared lemmas for the loops over Diff. No condition. -/
import Derived.Test.YtimhpncdlaildaaTrS
import Derived.Test.YtimhpncdlaildaaTrZ
import Derived.Test.YtimhpncdlaildaaTrJ
import Derived.Test.YtimhpncdlaildaaTrAD
import Derived.Test.YtimhpncdlaildaaRegF
import Derived.Test.YtimhpncdlaildaaRegG
import Derived.Test.YtimhpncdlaildaaRegS
import Derived.Test.YtimhpncdlaildaaRange
import Derived.LoopIn
namespace Go.Proofs.Ytimhpncdlaildaa
open Go.RowKit Go.Shelf
attribute [local go_sem] Oper.semAt_some

theorem dseq_some (w : World) (fn : Fn) (a b : Array Value) : (binOp .eql 78 (.func fn a b) .nilFunc).run Try.prog w = .ok (.bool false) w := by
  have h : ∀ d : Nat, (Op.equalIn (d + 1) 78 (.func fn a b) .nilFunc).run Try.prog w = .ok false w := fun d => by
    simp [Op.equalIn, run_underlying Try.underlying78]
  have h2 : (Op.equal 78 (.func fn a b) .nilFunc).run Try.prog w = .ok false w := h 9999
  simp only [binOp]
  simp only [Sem.run_bind, h2, Result.andThen_ok, Sem.run_pure]
theorem turned_cells {B l q : Nat} {W W' : World} {cs : Array Value} {t : TypeId} {f : Nat × Nat} (h : Range.Turned B l W W') (hq : W.heap[q]? = some (.cells cs t f)) : W'.heap[q]? = some (.cells cs t f) := by
  obtain ⟨_, o, o', h2, h3, _, rfl⟩ := h
  have hne : q ≠ l := fun e => by subst e; rw [hq] at h2; cases h2; cases h3
  exact (World.putObj_heap_other hne).trans hq
theorem turned_below {B l n : Nat} {W W' : World} (hn : n ≤ B) (h : Range.Turned B l W W') : Below n W W' := by
  obtain ⟨h1, o, o', h2, _, _, rfl⟩ := h
  have hg := grownBy_putObj' W l o'
  exact ⟨hg.os, hg.tape, hg.output, hg.size, fun q hq => World.putObj_heap_other (by omega)⟩
theorem keepsFrom_below {B : Nat} {W W' : World} (h : Below W.heap.size W W') : KeepsFrom B W W' := ⟨h.size, fun k _ _ hk _ => (h.block k (Array.getElem?_eq_some_iff.1 hk).1).trans hk⟩
theorem tl_inj {a b : ByteArray} (h : a.toList = b.toList) : a = b := by
  rw [ByteArray.toList_eq, ByteArray.toList_eq] at h
  cases a; cases b
  simpa using h
theorem keepsFrom_set {B : Nat} {W W3 : World} {a : Addr} {v : Value} (h : KeepsFrom B W W3) : KeepsFrom B W (W3.setCell a v) := h.trans ((KeepsOthers.setCell _ _ _).from B)
theorem keepC_turned {n₀ Bl B l : Nat} {W W' : World} (hn : n₀ ≤ B) (h : Range.Turned B l W W') : KeepC n₀ Bl W W' := ⟨turned_below hn h, fun _ _ _ _ _ e => turned_cells h e⟩
theorem TreeAt.set {w : World} {g i : Nat} {v x : Value} {t : TypeId} (h : BoxAt w g v t) : ∀ {T : Tr}, TreeAt w T → TreeAt (w.setCell ⟨g, i, none⟩ x) T
  | .nil, _ => trivial
  | .node b _ _ _ _ _, ⟨h1, h2, h3⟩ => ⟨(Below.heap_setCell _ _ _ _ (by
      show b ≠ g
      rintro rfl
      unfold NodeAt at h1
      unfold BoxAt at h
      rw [h1] at h
      simp [nodeCells] at h)).trans h1, TreeAt.set h h2, TreeAt.set h h3⟩
theorem KeptW.refl (w : World) : KeptW w w := Below.refl _ _
theorem KeptW.drew (w : World) : KeptW w w.drew := ⟨rfl, rfl, rfl, Nat.le_refl _, fun _ _ => rfl⟩
theorem keepsFrom_refl (B : Nat) (W : World) : KeepsFrom B W W := KeepsFrom.refl B W
/-- A block that is no cells abides an iterator's steps. -/
theorem def_own {W W' : World} {row : Option Nat} {B0 D : Nat} {o : Obj} (hD : D < B0) (h : W.heap[D]? = some o) (hg : W.grownBy W' row) (hr : ∀ r, row = some r → B0 ≤ r ∧ ∃ o : Obj, W.heap[r]? = some o ∧ o.isCells = false) : W'.heap[D]? = some o :=
  (hg.block D (Array.getElem?_eq_some_iff.1 h).1 (fun e => by have := (hr D e.symm).1; omega)).trans h
theorem below_own {W0 W W' : World} {row : Option Nat} {B0 : Nat} (hB : W0.heap.size ≤ B0) (h : Below W0.heap.size W0 W) (hg : W.grownBy W' row) (hr : ∀ r, row = some r → B0 ≤ r ∧ ∃ o : Obj, W.heap[r]? = some o ∧ o.isCells = false) : Below W0.heap.size W0 W' :=
  ⟨hg.os.trans h.os, hg.tape.trans h.tape, hg.output.trans h.output, Nat.le_trans h.size hg.size, fun q hq => (hg.block q (Nat.lt_of_lt_of_le hq h.size) (fun e => by have := (hr q e.symm).1; omega)).trans (h.block q hq)⟩
/-- A contract without a fence serves in a round. -/
theorem calls_round {l n : Nat} {P : Program} {f : FuncId} {args : Array Value} {w : World} {R : Ending → World → Prop} (h : Calls P f args w R) : CallsIn (Fence.wide.inRound l) n P f args w R :=
  show CallsIn Fence.wide n P f args w R from callsIn_wide.2 h
end Go.Proofs.Ytimhpncdlaildaa
