/- A law on ranges over a function whose loop variable is a box: the assignment to it makes memory, round by round. Condition: an iterator's law. -/
import Derived.RangeFuncWrites
import Derived.Test.YtkngadbeflepoaaMMachineBack22
import Derived.Test.YtkngadbeflepoaaMMachineBack25
import Derived.Test.YtkngadbeflepoaaMMachineBack26
import Derived.Test.YtkngadbeflepoaaMMachineBack3
import Derived.LoopIn
namespace Go.Proofs.Ytkngadbeflepoaa.Range
open Go Go.RowKit
variable {F : Fence} {n : Nat} {P : Program}

/-- What the loop's own record has come to between the assignment and the body: one block that is no cells. -/
def Turned (B l : Nat) (W W' : World) : Prop := B ≤ l ∧ ∃ o o' : Obj, W.heap[l]? = some o ∧ o.isCells = false ∧ o.isWalk = false ∧ W' = W.putObj l o'
/-- What the assignment owes: a frame and a world from which the body serves, once the record has been turned. -/
def Ready {α : Type} (B l : Nat) (m : Nat) (P : Program) (F : Fence) (body : Code) (Kp : World → World → Prop) (I : List α → World → Prop) (Ix : Code → List α → World → Prop) (xs : List α) (W : World) (a : Act) (W1 : World) : Prop :=
  KeepsFrom B W W1 ∧ Kp W W1 ∧ ∀ W2, Turned B l W1 W2 → body.wpIn (F.inRound l) m P (ownPostG B Kp I Ix xs W2) a W2

theorem wpIn_range {α : Type} {g : Operand} {ps : Array Tmp} {assign body : Code} {Q : Exit → Act → World → Prop} {a : Act} {w : World}
    (hro : F.round = none) (h1 : 1 ≤ n) {gf : Nat} {lb : Array Value} (hg : a.eval g = .func (.func gf) #[] lb) (hFg : F.fn gf) (eg : ∀ args w, (callFunc gf args).run P w = .ok (.enter gf args) w)
    {encs : α → Array Value} {Kp : World → World → Prop} {S Sp : List α → Prop} {N : Nat} {w0 : World} (hseq : SeqStopsK F (n - 1) P gf lb encs Kp S Sp N w0)
    (hKt : ∀ {A B C : World}, Kp A B → Kp B C → Kp A C) (hKb : ∀ (W : World) (l : Nat) (o o' : Obj), w.heap.size ≤ l → W.heap[l]? = some o → o.isCells = false → o.isWalk = false → Kp W (W.putObj l o')) (hb0 : Below w0.heap.size w0 w) (hps : ∀ x, (encs x).size = ps.size)
    (I : List α → World → Prop) (Ix : Code → List α → World → Prop) (hI : OwnFrom w.heap.size I) (hIx : ∀ c, OwnFrom w.heap.size (Ix c)) (h0 : I [] w)
    (hround : ∀ (l : Nat) (pre : List α) (x : α) (W : World), I pre W → pre.length < N →
      assign.wpIn (F.inRound l) (n - 1 - 1) P (Exit.then (Ready w.heap.size l (n - 1 - 1) P F body Kp I Ix (pre ++ [x]) W) (fun _ _ _ => False)) { tmps := (ps.zip (encs x)).foldl (fun t (p, v) => t.setIfInBounds p v) a.tmps, defers := [] } W)
    (hdone : ∀ (D : Nat) (xs : List α) (W : World), w.heap.size ≤ D → S xs → I xs W → W.heap[D]? = some (.deferred (some [])) → Q .normal { a with defers := { target := .collected D, args := #[] } :: a.defers } W)
    (hstop : ∀ (D : Nat) (c : Code) (pre : List α) (W : World), w.heap.size ≤ D → Sp pre → Ix c pre W → W.heap[D]? = some (.deferred (some [])) → c.wpIn F n P Q { a with defers := { target := .collected D, args := #[] } :: a.defers } W) :
    (Code.rangeFunc g ps assign body).wpIn F n P Q a w := by
  refine wpIn_rangeFunc (fun fn hfn => ?_)
  rw [hro]
  -- the two blocks that the statement lays: D, what rounds defer; L, its record
  generalize hD : w.heap.size = D at *
  let rec0 : LoopState → Option Code → Obj := fun st pe => .loop { state := st, pending := pe, fn, tmps := a.tmps, params := ps, assign, body, defers := D }
  let V := (w.alloc (.deferred (some []))).alloc (rec0 .ready none)
  have sV : V.heap.size = D + 2 := by simp [V, hD]
  have rV : V.heap[D + 1]? = some (rec0 .ready none) := by
    have h := World.alloc_heap_new (w.alloc (.deferred (some []))) (rec0 .ready none)
    rwa [World.size_alloc, hD] at h
  have dV : V.heap[D]? = some (.deferred (some [])) := by
    have h := World.alloc_heap_new w (.deferred (some []))
    rw [hD] at h
    exact (Below.heap_alloc _ _ _ (by rw [World.size_alloc]; omega)).trans h
  have iV : I [] V := hI.alloc _ (hI.alloc _ h0)
  have bV : Below w0.heap.size w0 V := hb0.trans ((((Below.refl _ w).alloc (Nat.le_refl _) _).alloc (by simp) _).mono hb0.size)
  refine ⟨D + 1, [{ target := .collected D, args := #[] }], V, { target := .fn (.func gf) lb, args := #[.func (.yield (D + 1)) #[] #[]] }, V, gf, #[.func (.yield (D + 1)) #[] #[]] ++ lb, V, ?_, ?_, ?_, ?_, fun _ => h1, ?_⟩
  · subst hD; exact run_enterLoop_outer _ _ _ _ _
  · simp only [resolve, hg]; simp [go_sem]
  · intro f' hf'; simp [Target.leads] at hf'; subst hf'; exact hFg
  · simp [invoke, go_sem, eg]
  -- the iterator's contract: beside the caller's invariant, the two blocks
  have away : ∀ {A : World} {row : Option Nat}, (∀ r, row = some r → V.heap.size ≤ r ∧ ∃ o : Obj, A.heap[r]? = some o ∧ o.isWalk = true) → ∀ r, row = some r → D ≤ r ∧ ∃ o : Obj, A.heap[r]? = some o ∧ o.isCells = false := fun hr r e => by
    obtain ⟨h2, o, ho, hw⟩ := hr r e
    exact ⟨by omega, o, ho, Obj.not_cells_of_walk hw⟩
  have abide : ∀ {A B : World} {row : Option Nat} {q : Nat} {o : Obj}, A.grownBy B row → (∀ r, row = some r → V.heap.size ≤ r ∧ ∃ o : Obj, A.heap[r]? = some o ∧ o.isWalk = true) → A.heap[q]? = some o → o.isWalk = false → B.heap[q]? = some o := fun hg hr h2 h3 =>
    (grownBy_keeps hg (fun r e => (hr r e).2) h2 h3).trans h2
  refine (hseq (D + 1) (fun pre W => I pre W ∧ W.heap[D + 1]? = some (rec0 .ready none) ∧ W.heap[D]? = some (.deferred (some [])))
    (fun pre W => ∃ c, Ix c pre W ∧ W.heap[D + 1]? = some (rec0 .done (some c)) ∧ W.heap[D]? = some (.deferred (some []))) V bV
    (fun s A B row hs hg' hr => ⟨hI s A B row hs.1 hg' (away hr), abide hg' hr hs.2.1 rfl, abide hg' hr hs.2.2 rfl⟩)
    (fun s A B row hs hg' hr => hs.elim fun c hc => ⟨c, hIx c s A B row hc.1 hg' (away hr), abide hg' hr hc.2.1 rfl, abide hg' hr hc.2.2 rfl⟩) ?_ ⟨iV, rV, dV⟩).mono ?_
  · rintro pre x W ⟨hi, hl, hk⟩ hlen
    refine ⟨fn, _, assign, body, run_yield (P := P) (args := encs x) hl (hps x), roundIn_of_wpIn hfn (wpIn_mono (hround (D + 1) pre x W hi hlen) (fun e a1 W1 he => ?_))⟩
    cases e with
    | normal =>
      obtain ⟨k1, kp1, hb⟩ := he
      have hl1 := k1.same _ _ (by omega) hl rfl
      have hk1 := k1.same _ _ (Nat.le_refl _) hk rfl
      have hlt : D + 1 < W1.heap.size := (Array.getElem?_eq_some_iff.1 hl1).1
      refine ⟨_, run_beginRound hl1 rfl, wpIn_mono (hb _ ⟨by omega, _, _, hl1, rfl, rfl, rfl⟩) ?_⟩
      generalize hW2 : W1.putObj (D + 1) _ = W2
      have hl2 : W2.heap[D + 1]? = some (rec0 .busy none) := by rw [← hW2]; exact World.putObj_heap_same hlt
      have hk2 : W2.heap[D]? = some (.deferred (some [])) := by rw [← hW2]; exact (World.putObj_heap_other (by omega)).trans hk1
      have kp2 : Kp W W2 := by rw [← hW2]; exact hKt kp1 (hKb _ _ _ _ (by omega) hl1 rfl rfl)
      -- the record behind the body
      have fin : ∀ (jump : Option Code) (W3 : World), KeepsFrom D W2 W3 → W3.heap[D + 1]? = some (rec0 .busy none) ∧ W3.heap[D]? = some (.deferred (some [])) ∧
          (Instr.endRound (D + 1) jump).run P W3 = .ok (.bool jump.isNone) (W3.putObj (D + 1) (rec0 (if jump.isNone then .ready else .done) jump)) := fun jump W3 k3 =>
        ⟨k3.same _ _ (by omega) hl2 rfl, k3.same _ _ (Nat.le_refl _) hk2 rfl, run_endRound (P := P) jump (k3.same _ _ (by omega) hl2 rfl)⟩
      have rest : ∀ (st : LoopState) (pe : Option Code) (W3 : World), W3.heap[D + 1]? = some (rec0 .busy none) → W3.heap[D]? = some (.deferred (some [])) →
          (W3.putObj (D + 1) (rec0 st pe)).heap[D + 1]? = some (rec0 st pe) ∧ (W3.putObj (D + 1) (rec0 st pe)).heap[D]? = some (.deferred (some [])) := fun st pe W3 h2 h3 =>
        ⟨World.putObj_heap_same (Array.getElem?_eq_some_iff.1 h2).1, (World.putObj_heap_other (by omega)).trans h3⟩
      intro e2 a3 W3 hp
      cases e2 with
      | normal =>
        obtain ⟨k3, kp3, i3⟩ := hp
        obtain ⟨h2, h3, hrun⟩ := fin none W3 k3
        exact ⟨_, _, hrun, .inl ⟨rfl, ⟨hI.putObj _ i3 (by omega) h2 rfl, rest _ _ _ h2 h3⟩, hKt (hKt kp2 kp3) (hKb _ _ _ _ (by omega) h2 rfl rfl)⟩⟩
      | ret =>
        obtain ⟨h2, h3, hrun⟩ := fin (some .ret) W3 hp.1
        exact ⟨_, _, hrun, .inr ⟨rfl, .ret, (hIx _).putObj _ hp.2 (by omega) h2 rfl, rest _ _ _ h2 h3⟩⟩
      | exit id =>
        obtain ⟨h2, h3, hrun⟩ := fin (some (.exit id)) W3 hp.1
        exact ⟨_, _, hrun, .inr ⟨rfl, .exit id, (hIx _).putObj _ hp.2 (by omega) h2 rfl, rest _ _ _ h2 h3⟩⟩
      | goto t =>
        obtain ⟨h2, h3, hrun⟩ := fin (some (.goto t)) W3 hp.1
        exact ⟨_, _, hrun, .inr ⟨rfl, .goto t, (hIx _).putObj _ hp.2 (by omega) h2 rfl, rest _ _ _ h2 h3⟩⟩
      | panic ch => exact hp.elim
      | outgrown => exact hp.elim
    | exit id => exact he.elim
    | goto t => exact he.elim
    | ret => exact he.elim
    | panic ch => exact he.elim
    | outgrown => exact he.elim
  · rintro e W2 ⟨⟨v, rfl⟩, (⟨xs, hS, hi, hl, hk⟩ | ⟨pre, hSp, c, hi, hl, hk⟩)⟩
    · exact ⟨none, _, run_endLoop (P := P) hl (by simp), hdone D xs _ (by omega) hS (hI.putObj _ hi (by omega) hl rfl) ((World.putObj_heap_other (by omega)).trans hk)⟩
    · exact ⟨some c, _, run_endLoop (P := P) hl (by simp), hstop D c pre _ (by omega) hSp ((hIx c).putObj _ hi (by omega) hl rfl) ((World.putObj_heap_other (by omega)).trans hk)⟩

/-- The same where a round may break off the loop: both ways out of it meet. -/
theorem wpIn_range_break {α : Type} {g : Operand} {ps : Array Tmp} {assign body : Code} {Q : Exit → Act → World → Prop} {a : Act} {w : World} (id : Nat)
    (hro : F.round = none) (h1 : 1 ≤ n) {gf : Nat} {lb : Array Value} (hg : a.eval g = .func (.func gf) #[] lb) (hFg : F.fn gf) (eg : ∀ args w, (callFunc gf args).run P w = .ok (.enter gf args) w)
    {encs : α → Array Value} {Kp : World → World → Prop} {S Sp : List α → Prop} {N : Nat} {w0 : World} (hseq : SeqStopsK F (n - 1) P gf lb encs Kp S Sp N w0)
    (hKt : ∀ {A B C : World}, Kp A B → Kp B C → Kp A C) (hKb : ∀ (W : World) (l : Nat) (o o' : Obj), w.heap.size ≤ l → W.heap[l]? = some o → o.isCells = false → o.isWalk = false → Kp W (W.putObj l o')) (hb0 : Below w0.heap.size w0 w) (hps : ∀ x, (encs x).size = ps.size)
    (I : List α → World → Prop) (Ix : Code → List α → World → Prop) (hI : OwnFrom w.heap.size I) (hIx : ∀ c, OwnFrom w.heap.size (Ix c)) (h0 : I [] w)
    (hround : ∀ (l : Nat) (pre : List α) (x : α) (W : World), I pre W → pre.length < N →
      assign.wpIn (F.inRound l) (n - 1 - 1) P (Exit.then (Ready w.heap.size l (n - 1 - 1) P F body Kp I Ix (pre ++ [x]) W) (fun _ _ _ => False)) { tmps := (ps.zip (encs x)).foldl (fun t (p, v) => t.setIfInBounds p v) a.tmps, defers := [] } W)
    (T : List α → World → Prop) (hT1 : ∀ xs W, S xs → I xs W → T xs W) (hT2 : ∀ pre W, Sp pre → Ix (.exit id) pre W → T pre W) (hno : ∀ c pre W, c ≠ .exit id → Sp pre → Ix c pre W → False)
    (hQ : ∀ a W, Q .normal a W → Q (.exit id) a W)
    (hrest : ∀ (D : Nat) (xs : List α) (W : World), w.heap.size ≤ D → T xs W → W.heap[D]? = some (.deferred (some [])) → Q .normal { a with defers := { target := .collected D, args := #[] } :: a.defers } W) :
    (Code.rangeFunc g ps assign body).wpIn F n P Q a w := by
  refine wpIn_range hro h1 hg hFg eg hseq hKt hKb hb0 hps I Ix hI hIx h0 hround (fun D xs W hD hS hi hk => hrest D xs W hD (hT1 xs W hS hi) hk) (fun D c pre W hD hS hi hk => ?_)
  by_cases hc : c = .exit id
  · subst hc
    exact wpIn_exit (hQ _ _ (hrest D pre W hD (hT2 pre W hS hi) hk))
  · exact (hno c pre W hc hS hi).elim
end Go.Proofs.Ytkngadbeflepoaa.Range
/- Shared lemmas for the loops over Diff. No condition. -/
namespace Go.Proofs.Ytkngadbeflepoaa
open Go.RowKit Go.Shelf
attribute [local go_sem] Oper.semAt_some

theorem dseq_some (w : World) (fn : Fn) (a b : Array Value) : (binOp .eql 126 (.func fn a b) .nilFunc).run Try.prog w = .ok (.bool false) w := by
  have h : ∀ d : Nat, (Op.equalIn (d + 1) 126 (.func fn a b) .nilFunc).run Try.prog w = .ok false w := fun d => by
    simp [Op.equalIn, run_underlying Try.underlying126]
  have h2 : (Op.equal 126 (.func fn a b) .nilFunc).run Try.prog w = .ok false w := h 9999
  simp only [binOp]
  simp only [Sem.run_bind, h2, Result.andThen_ok, Sem.run_pure]
theorem turned_cells {B l q : Nat} {W W' : World} {cs : Array Value} {t : TypeId} {f : Nat × Nat} (h : Range.Turned B l W W') (hq : W.heap[q]? = some (.cells cs t f)) : W'.heap[q]? = some (.cells cs t f) := by
  obtain ⟨_, o, o', h2, h3, _, rfl⟩ := h
  have hne : q ≠ l := fun e => by subst e; rw [hq] at h2; cases h2; cases h3
  exact (World.putObj_heap_other hne).trans hq
theorem turned_below {B l n : Nat} {W W' : World} (hn : n ≤ B) (h : Range.Turned B l W W') : Below n W W' := by
  obtain ⟨h1, o, o', h2, _, _, rfl⟩ := h
  have hg := grownBy_putObj' W l o'
  exact ⟨hg.os, hg.tape, hg.output, hg.size, fun q hq => World.putObj_heap_other (by omega)⟩
theorem keepsFrom_below {B : Nat} {W W' : World} (h : Below W.heap.size W W') : KeepsFrom B W W' := ⟨h.size, fun k _ _ hk _ => (h.block k (Array.getElem?_eq_some_iff.1 hk).1).trans hk⟩
theorem tl_inj {a b : ByteArray} (h : a.toList = b.toList) : a = b := by
  rw [ByteArray.toList_eq, ByteArray.toList_eq] at h
  cases a; cases b
  simpa using h
theorem keepsFrom_set {B : Nat} {W W3 : World} {a : Addr} {v : Value} (h : KeepsFrom B W W3) : KeepsFrom B W (W3.setCell a v) := h.trans ((KeepsOthers.setCell _ _ _).from B)
theorem keepC_turned {n₀ Bl B l : Nat} {W W' : World} (hn : n₀ ≤ B) (h : Range.Turned B l W W') : KeepC n₀ Bl W W' := ⟨turned_below hn h, fun _ _ _ _ _ e => turned_cells h e⟩
theorem TreeAt.set {w : World} {g i : Nat} {v x : Value} {t : TypeId} (h : BoxAt w g v t) : ∀ {T : Tr}, TreeAt w T → TreeAt (w.setCell ⟨g, i, none⟩ x) T
  | .nil, _ => trivial
  | .node b _ _ _ _ _, ⟨h1, h2, h3⟩ => ⟨(Below.heap_setCell _ _ _ _ (by
      show b ≠ g
      rintro rfl
      unfold NodeAt at h1
      unfold BoxAt at h
      rw [h1] at h
      simp [nodeCells] at h)).trans h1, TreeAt.set h h2, TreeAt.set h h3⟩
theorem KeptW.refl (w : World) : KeptW w w := Below.refl _ _
theorem KeptW.drew (w : World) : KeptW w w.drew := ⟨rfl, rfl, rfl, Nat.le_refl _, fun _ _ => rfl⟩
theorem keepsFrom_refl (B : Nat) (W : World) : KeepsFrom B W W := KeepsFrom.refl B W
/-- A block that is no cells abides an iterator's steps. -/
theorem def_own {W W' : World} {row : Option Nat} {B0 D : Nat} {o : Obj} (hD : D < B0) (h : W.heap[D]? = some o) (hg : W.grownBy W' row) (hr : ∀ r, row = some r → B0 ≤ r ∧ ∃ o : Obj, W.heap[r]? = some o ∧ o.isCells = false) : W'.heap[D]? = some o :=
  (hg.block D (Array.getElem?_eq_some_iff.1 h).1 (fun e => by have := (hr D e.symm).1; omega)).trans h
theorem below_own {W0 W W' : World} {row : Option Nat} {B0 : Nat} (hB : W0.heap.size ≤ B0) (h : Below W0.heap.size W0 W) (hg : W.grownBy W' row) (hr : ∀ r, row = some r → B0 ≤ r ∧ ∃ o : Obj, W.heap[r]? = some o ∧ o.isCells = false) : Below W0.heap.size W0 W' :=
  ⟨hg.os.trans h.os, hg.tape.trans h.tape, hg.output.trans h.output, Nat.le_trans h.size hg.size, fun q hq => (hg.block q (Nat.lt_of_lt_of_le hq h.size) (fun e => by have := (hr q e.symm).1; omega)).trans (h.block q hq)⟩
/-- A contract without a fence serves in a round. -/
theorem calls_round {l n : Nat} {P : Program} {f : FuncId} {args : Array Value} {w : World} {R : Ending → World → Prop} (h : Calls P f args w R) : CallsIn (Fence.wide.inRound l) n P f args w R :=
  show CallsIn Fence.wide n P f args w R from callsIn_wide.2 h
end Go.Proofs.Ytkngadbeflepoaa
