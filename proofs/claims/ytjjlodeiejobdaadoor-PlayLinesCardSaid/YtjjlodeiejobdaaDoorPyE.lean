/- Play: a law on ranges over iterators that keep what they know in cells of their own. Condition: an iterator's law. -/
import Derived.RangeFuncWrites
namespace Go.Proofs.YtjjlodeiejobdaaDoor
open Go Go.RowKit
/-- Whatever turns blocks of Z alone, J stands. -/
def AbidesZ {β : Type} (Z : Nat → Prop) (J : β → World → Prop) : Prop := ∀ s A B row, J s A → A.grownBy B row → (∀ r, row = some r → Z r) → J s B
/-- The blocks of Z lie as they lay. -/
def KeptZ (Z : Nat → Prop) (A B : World) : Prop := ∀ r o, Z r → A.heap[r]? = some o → B.heap[r]? = some o
theorem KeptZ.trans {Z : Nat → Prop} {A B C : World} (h : KeptZ Z A B) (k : KeptZ Z B C) : KeptZ Z A C := fun r o hr e => k r o hr (h r o hr e)
theorem KeptZ.sub {Z Y : Nat → Prop} {A B : World} (h : KeptZ Z A B) (hs : ∀ r, Y r → Z r) : KeptZ Y A B := fun r o hr e => h r o (hs r hr) e
theorem KeptZ.put {Z : Nat → Prop} {A : World} {l : Nat} (h : ¬ Z l) (o : Obj) : KeptZ Z A (A.putObj l o) := fun r o' hr e => (World.putObj_heap_other (fun q => h (by first | (rw [q]; exact hr) | (rw [← q]; exact hr)))).trans e
/-- An iterator's law: the blocks of Zs, and k more that it lays ahead of its first round, are its own. -/
def SeqZ {α : Type} (F : Fence) (n : Nat) (P : Program) (g : Nat) (lb : Array Value) (encs : α → Array Value) (Zs : Nat → Prop) (k : Nat) (S Sp : List α → Prop) (w : World) : Prop :=
  ∀ (l : Nat) (J Jx : List α → World → Prop) (W : World) (Z : Nat → Prop), (∀ r, Z r ↔ Zs r ∨ (W.heap.size ≤ r ∧ r < W.heap.size + k)) → Below w.heap.size w W → AbidesZ Z J → AbidesZ Z Jx →
    (∀ pre x W1, J pre W1 → (∀ r, Z r → r < W1.heap.size) → Sp (pre ++ [x]) → YieldAt F (n - 1) P l (encs x) W1 fun e W' =>
      (e = .returned (.bool true) ∧ J (pre ++ [x]) W' ∧ KeptZ Z W1 W') ∨ (e = .returned (.bool false) ∧ Jx (pre ++ [x]) W' ∧ KeptZ Z W1 W')) →
    J [] W →
    CallsIn F n P g (#[.func (.yield l) #[] #[]] ++ lb) W fun e W' => (∃ v, e = .returned v) ∧ ((∃ xs, S xs ∧ J xs W') ∨ (∃ pre, Sp pre ∧ Jx pre W'))
/-- How a round may be left. -/
def ownPostZ {α : Type} (Z : Nat → Prop) (I : List α → World → Prop) (Ix : Code → List α → World → Prop) (xs : List α) (W : World) : Exit → Act → World → Prop
  | .normal, _, W' => KeptZ Z W W' ∧ I xs W'
  | .ret, _, W' => KeptZ Z W W' ∧ Ix .ret xs W'
  | .exit id, _, W' => KeptZ Z W W' ∧ Ix (.exit id) xs W'
  | .goto t, _, W' => KeptZ Z W W' ∧ Ix (.goto t) xs W'
  | .panic _, _, _ => False
  | .outgrown, _, _ => False
variable {F : Fence} {n : Nat} {P : Program}
theorem wpIn_rangeZ {α : Type} {g : Operand} {ps : Array Tmp} {assign body : Code} {Q : Exit → Act → World → Prop} {a : Act} {w : World}
    (hro : F.round = none) (h1 : 1 ≤ n) {gf : Nat} {lb : Array Value} (hg : a.eval g = .func (.func gf) #[] lb) (hFg : F.fn gf) (eg : ∀ args w, (callFunc gf args).run P w = .ok (.enter gf args) w)
    {encs : α → Array Value} {Zs : Nat → Prop} {k : Nat} {S Sp : List α → Prop} {w0 : World} (hseq : SeqZ F (n - 1) P gf lb encs Zs k S Sp w0) (hb0 : Below w0.heap.size w0 w) (hZs : ∀ r, Zs r → r < w.heap.size) (hps : ∀ x, (encs x).size = ps.size)
    {Z : Nat → Prop} (hZ : ∀ r, Z r ↔ Zs r ∨ (w.heap.size ≤ r ∧ r < w.heap.size + 2 + k))
    (I : List α → World → Prop) (Ix : Code → List α → World → Prop) (hI : AbidesZ Z I) (hIx : ∀ c, AbidesZ Z (Ix c)) (h0 : I [] w) (a₁ : α → Act)
    (hassign : ∀ (l : Nat) (x : α) (W : World) (K : Act → World → Prop), K (a₁ x) W →
      assign.wpIn (F.inRound l) (n - 1 - 1) P (Exit.then K (fun _ _ _ => False)) { tmps := (ps.zip (encs x)).foldl (fun t (p, v) => t.setIfInBounds p v) a.tmps, defers := [] } W)
    (hbody : ∀ (l : Nat) (pre : List α) (x : α) (W : World), I pre W → w.heap.size + 2 + k ≤ W.heap.size → Sp (pre ++ [x]) → body.wpIn (F.inRound l) (n - 1 - 1) P (ownPostZ Z I Ix (pre ++ [x]) W) (a₁ x) W)
    (hdone : ∀ (xs : List α) (W : World), S xs → I xs W → W.heap[w.heap.size]? = some (.deferred (some [])) → Q .normal { a with defers := { target := .collected w.heap.size, args := #[] } :: a.defers } W)
    (hstop : ∀ (c : Code) (pre : List α) (W : World), Sp pre → Ix c pre W → W.heap[w.heap.size]? = some (.deferred (some [])) → c.wpIn F n P Q { a with defers := { target := .collected w.heap.size, args := #[] } :: a.defers } W) :
    (Code.rangeFunc g ps assign body).wpIn F n P Q a w := by
  refine wpIn_rangeFunc (fun fn hfn => ?_)
  rw [hro]
  generalize hD : w.heap.size = D at *
  let rec0 : LoopState → Option Code → Obj := fun st pe => .loop { state := st, pending := pe, fn, tmps := a.tmps, params := ps, assign, body, defers := D }
  let V := (w.alloc (.deferred (some []))).alloc (rec0 .ready none)
  have sV : V.heap.size = D + 2 := by simp [V, hD]
  have rV : V.heap[D + 1]? = some (rec0 .ready none) := by
    have h := World.alloc_heap_new (w.alloc (.deferred (some []))) (rec0 .ready none)
    rwa [World.size_alloc, hD] at h
  have dV : V.heap[D]? = some (.deferred (some [])) := by
    have h := World.alloc_heap_new w (.deferred (some []))
    rw [hD] at h
    exact (Below.heap_alloc _ _ _ (by rw [World.size_alloc]; omega)).trans h
  have bw : Below w.heap.size w V := ((Below.refl _ w).alloc (Nat.le_refl _) _).alloc (by simp) _
  have iV : I [] V := hI _ _ _ none h0 ⟨bw.os, bw.tape, bw.output, bw.size, fun q hq _ => bw.block q hq⟩ (fun r e => by cases e)
  have bV : Below w0.heap.size w0 V := hb0.trans (bw.mono hb0.size)
  have zD : Z D := (hZ D).2 (.inr ⟨Nat.le_refl _, by omega⟩)
  have zL : Z (D + 1) := (hZ (D + 1)).2 (.inr ⟨by omega, by omega⟩)
  have turn : ∀ {β : Type} {J : β → World → Prop} (_ : AbidesZ Z J) {s : β} {A : World} (o : Obj), J s A → J s (A.putObj (D + 1) o) := @fun β J hJ s A o h => hJ s A _ (some (D + 1)) h (grownBy_putObj' A (D + 1) o) (fun r e => by cases e; exact zL)
  refine ⟨D + 1, [{ target := .collected D, args := #[] }], V, { target := .fn (.func gf) lb, args := #[.func (.yield (D + 1)) #[] #[]] }, V, gf, #[.func (.yield (D + 1)) #[] #[]] ++ lb, V, ?_, ?_, ?_, ?_, fun _ => h1, ?_⟩
  · subst hD; exact run_enterLoop_outer _ _ _ _ _
  · simp only [resolve, hg]; simp [go_sem]
  · intro f' hf'; simp [Target.leads] at hf'; subst hf'; exact hFg
  · simp [invoke, go_sem, eg]
  -- the iterator's blocks
  let Y : Nat → Prop := fun r => Zs r ∨ (V.heap.size ≤ r ∧ r < V.heap.size + k)
  have yZ : ∀ r, Y r → Z r := fun r hr => (hZ r).2 (hr.imp id (fun h => ⟨by omega, by omega⟩))
  have yD : ¬ Y D := fun h => by rcases h with h | h; · have := hZs _ h; omega
                                 · omega
  have yL : ¬ Y (D + 1) := fun h => by rcases h with h | h; · have := hZs _ h; omega
                                       · omega
  have abide : ∀ {A B : World} {row : Option Nat} {q : Nat} {o : Obj}, A.grownBy B row → (∀ r, row = some r → Y r) → ¬ Y q → A.heap[q]? = some o → B.heap[q]? = some o := fun hg hr hq h =>
    (hg.block _ (Array.getElem?_eq_some_iff.1 h).1 (fun e => hq (hr _ e.symm))).trans h
  refine (hseq (D + 1) (fun pre W => I pre W ∧ W.heap[D + 1]? = some (rec0 .ready none) ∧ W.heap[D]? = some (.deferred (some [])))
    (fun pre W => ∃ c, Ix c pre W ∧ W.heap[D + 1]? = some (rec0 .done (some c)) ∧ W.heap[D]? = some (.deferred (some []))) V Y (fun _ => Iff.rfl) bV
    (fun s A B row hs hg' hr => ⟨hI s A B row hs.1 hg' (fun r e => yZ r (hr r e)), abide hg' hr yL hs.2.1, abide hg' hr yD hs.2.2⟩)
    (fun s A B row hs hg' hr => hs.elim fun c hc => ⟨c, hIx c s A B row hc.1 hg' (fun r e => yZ r (hr r e)), abide hg' hr yL hc.2.1, abide hg' hr yD hc.2.2⟩) ?_ ⟨iV, rV, dV⟩).mono ?_
  · rintro pre x W ⟨hi, hl, hk⟩ hsz hSp
    have hlt : D + 1 < W.heap.size := (Array.getElem?_eq_some_iff.1 hl).1
    have hbig : D + 2 + k ≤ W.heap.size := by
      rcases Nat.eq_zero_or_pos k with h | h
      · omega
      · have := hsz (V.heap.size + k - 1) (.inr ⟨by omega, by omega⟩); omega
    refine ⟨fn, _, assign, body, run_yield (P := P) (args := encs x) hl (hps x), roundIn_of_wpIn hfn (wpIn_mono (hassign (D + 1) x W (fun a' W' => a' = a₁ x ∧ W' = W) ⟨rfl, rfl⟩) (fun e a1 W1 he => ?_))⟩
    cases e with
    | normal =>
      obtain ⟨rfl, rfl⟩ := he
      refine ⟨_, run_beginRound hl rfl, wpIn_mono (hbody (D + 1) pre x _ (turn hI _ hi) (by simpa using hbig) hSp) ?_⟩
      generalize hW2 : W1.putObj (D + 1) _ = W2
      have hl2 : W2.heap[D + 1]? = some (rec0 .busy none) := by rw [← hW2]; exact World.putObj_heap_same hlt
      have hk2 : W2.heap[D]? = some (.deferred (some [])) := by rw [← hW2]; exact (World.putObj_heap_other (by omega)).trans hk
      have ky : KeptZ Y W1 W2 := by rw [← hW2]; exact KeptZ.put yL _
      have fin : ∀ (jump : Option Code) (W3 : World), KeptZ Z W2 W3 → W3.heap[D + 1]? = some (rec0 .busy none) ∧ W3.heap[D]? = some (.deferred (some [])) ∧
          (Instr.endRound (D + 1) jump).run P W3 = .ok (.bool jump.isNone) (W3.putObj (D + 1) (rec0 (if jump.isNone then .ready else .done) jump)) := fun jump W3 k3 =>
        ⟨k3 _ _ zL hl2, k3 _ _ zD hk2, run_endRound (P := P) jump (k3 _ _ zL hl2)⟩
      have rest : ∀ (st : LoopState) (pe : Option Code) (W3 : World), W3.heap[D + 1]? = some (rec0 .busy none) → W3.heap[D]? = some (.deferred (some [])) →
          (W3.putObj (D + 1) (rec0 st pe)).heap[D + 1]? = some (rec0 st pe) ∧ (W3.putObj (D + 1) (rec0 st pe)).heap[D]? = some (.deferred (some [])) := fun st pe W3 h2 h3 =>
        ⟨World.putObj_heap_same (Array.getElem?_eq_some_iff.1 h2).1, (World.putObj_heap_other (by omega)).trans h3⟩
      intro e2 a3 W3 hp
      cases e2 with
      | normal =>
        obtain ⟨k3, i3⟩ := hp
        obtain ⟨h2, h3, hrun⟩ := fin none W3 k3
        exact ⟨_, _, hrun, .inl ⟨rfl, ⟨turn hI _ i3, rest _ _ _ h2 h3⟩, (ky.trans (k3.sub yZ)).trans (KeptZ.put yL _)⟩⟩
      | ret =>
        obtain ⟨h2, h3, hrun⟩ := fin (some .ret) W3 hp.1
        exact ⟨_, _, hrun, .inr ⟨rfl, ⟨.ret, turn (hIx _) _ hp.2, rest _ _ _ h2 h3⟩, (ky.trans (hp.1.sub yZ)).trans (KeptZ.put yL _)⟩⟩
      | exit id =>
        obtain ⟨h2, h3, hrun⟩ := fin (some (.exit id)) W3 hp.1
        exact ⟨_, _, hrun, .inr ⟨rfl, ⟨.exit id, turn (hIx _) _ hp.2, rest _ _ _ h2 h3⟩, (ky.trans (hp.1.sub yZ)).trans (KeptZ.put yL _)⟩⟩
      | goto t =>
        obtain ⟨h2, h3, hrun⟩ := fin (some (.goto t)) W3 hp.1
        exact ⟨_, _, hrun, .inr ⟨rfl, ⟨.goto t, turn (hIx _) _ hp.2, rest _ _ _ h2 h3⟩, (ky.trans (hp.1.sub yZ)).trans (KeptZ.put yL _)⟩⟩
      | panic ch => exact hp.elim
      | outgrown => exact hp.elim
    | exit id => exact he.elim
    | goto t => exact he.elim
    | ret => exact he.elim
    | panic ch => exact he.elim
    | outgrown => exact he.elim
  · rintro e W2 ⟨⟨v, rfl⟩, (⟨xs, hS, hi, hl, hk⟩ | ⟨pre, hSp, c, hi, hl, hk⟩)⟩
    · exact ⟨none, _, run_endLoop (P := P) hl (by simp), hdone xs _ hS (turn hI _ hi) ((World.putObj_heap_other (by omega)).trans hk)⟩
    · exact ⟨some c, _, run_endLoop (P := P) hl (by simp), hstop c pre _ hSp (turn (hIx c) _ hi) ((World.putObj_heap_other (by omega)).trans hk)⟩
end Go.Proofs.YtjjlodeiejobdaaDoor
