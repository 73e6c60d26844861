/- A law on ranges over a function whose loop variable is a box: the assignment to it makes memory, round by round. Condition: an iterator's law. -/
import Derived.RangeFuncWrites
import Derived.LoopIn
import Derived.Test.YtbckjgageofldaaGreatZLearnNil18
import Derived.Test.YtbckjgageofldaaGreatZLearnNil21
import Derived.Test.YtbckjgageofldaaGreatZLearnNil10
import Derived.Test.YtbckjgageofldaaGreatZLearnNil3
import Derived.Test.YtbckjgageofldaaGreatZLearnNil16
import Derived.Test.YtbckjgageofldaaGreatZLearnNil4
import Derived.OwnWalk
import Derived.Laws.CopyOwn
import Derived.Laws.MakeOwn
import Derived.Lib.AppendStr
import Derived.Below
import Derived.Laws.IdiomStrings
import Derived.Lib.BufferRead
import Derived.Laws.AppendOwnNone
import Derived.Test.YtbckjgageofldaaGreatChecked
import Derived.WalkKit
import Derived.ProofKit
import Derived.Lib.Hide
import Derived.IntWalk
import Derived.Shelf.Strconv.Itoa0
import Derived.Deep.DeepCutAuto
import Derived.StillTailTactics
namespace Go.Proofs.YtbckjgageofldaaGreat.Range
open Go Go.RowKit
variable {F : Fence} {n : Nat} {P : Program}
def Turned (B l : Nat) (W W' : World) : Prop := B ≤ l ∧ ∃ o o' : Obj, W.heap[l]? = some o ∧ o.isCells = false ∧ o.isWalk = false ∧ W' = W.putObj l o'
def Ready {α : Type} (B l : Nat) (m : Nat) (P : Program) (F : Fence) (body : Code) (Kp : World → World → Prop) (I : List α → World → Prop) (Ix : Code → List α → World → Prop) (xs : List α) (W : World) (a : Act) (W1 : World) : Prop :=
 KeepsFrom B W W1 ∧ Kp W W1 ∧ ∀ W2, Turned B l W1 W2 → body.wpIn (F.inRound l) m P (ownPostG B Kp I Ix xs W2) a W2
theorem wpIn_range {α : Type} {g : Operand} {ps : Array Tmp} {assign body : Code} {Q : Exit → Act → World → Prop} {a : Act} {w : World}
  (hro : F.round = none) (h1 : 1 ≤ n) {gf : Nat} {lb : Array Value} (hg : a.eval g = .func (.func gf) #[] lb) (hFg : F.fn gf) (eg : ∀ args w, (callFunc gf args).run P w = .ok (.enter gf args) w)
  {encs : α → Array Value} {Kp : World → World → Prop} {S Sp : List α → Prop} {N : Nat} {w0 : World} (hseq : SeqStopsK F (n - 1) P gf lb encs Kp S Sp N w0)
  (hKt : ∀ {A B C : World}, Kp A B → Kp B C → Kp A C) (hKb : ∀ (W : World) (l : Nat) (o o' : Obj), w.heap.size ≤ l → W.heap[l]? = some o → o.isCells = false → o.isWalk = false → Kp W (W.putObj l o')) (hb0 : Below w0.heap.size w0 w) (hps : ∀ x, (encs x).size = ps.size)
  (I : List α → World → Prop) (Ix : Code → List α → World → Prop) (hI : OwnFrom w.heap.size I) (hIx : ∀ c, OwnFrom w.heap.size (Ix c)) (h0 : I [] w)
  (hround : ∀ (l : Nat) (pre : List α) (x : α) (W : World), I pre W → pre.length < N →
   assign.wpIn (F.inRound l) (n - 1 - 1) P (Exit.then (Ready w.heap.size l (n - 1 - 1) P F body Kp I Ix (pre ++ [x]) W) (fun _ _ _ => False)) { tmps := (ps.zip (encs x)).foldl (fun t (p, v) => t.setIfInBounds p v) a.tmps, defers := [] } W)
  (hdone : ∀ (D : Nat) (xs : List α) (W : World), w.heap.size ≤ D → S xs → I xs W → W.heap[D]? = some (.deferred (some [])) → Q .normal { a with defers := { target := .collected D, args := #[] } :: a.defers } W)
  (hstop : ∀ (D : Nat) (c : Code) (pre : List α) (W : World), w.heap.size ≤ D → Sp pre → Ix c pre W → W.heap[D]? = some (.deferred (some [])) → c.wpIn F n P Q { a with defers := { target := .collected D, args := #[] } :: a.defers } W) :
  (Code.rangeFunc g ps assign body).wpIn F n P Q a w := by
 refine wpIn_rangeFunc (fun fn hfn => ?_)
 rw [hro]
 -- the two blocks that the statement lays: D, what rounds defer; L, its record
 generalize hD : w.heap.size = D at *
 let rec0 : LoopState → Option Code → Obj := fun st pe => .loop { state := st, pending := pe, fn, tmps := a.tmps, params := ps, assign, body, defers := D }
 let V := (w.alloc (.deferred (some []))).alloc (rec0 .ready none)
 have sV : V.heap.size = D + 2 := by simp [V, hD]
 have rV : V.heap[D + 1]? = some (rec0 .ready none) := by
  have h := World.alloc_heap_new (w.alloc (.deferred (some []))) (rec0 .ready none)
  rwa [World.size_alloc, hD] at h
 have dV : V.heap[D]? = some (.deferred (some [])) := by
  have h := World.alloc_heap_new w (.deferred (some []))
  rw [hD] at h
  exact (Below.heap_alloc _ _ _ (by rw [World.size_alloc]; omega)).trans h
 have iV : I [] V := hI.alloc _ (hI.alloc _ h0)
 have bV : Below w0.heap.size w0 V := hb0.trans ((((Below.refl _ w).alloc (Nat.le_refl _) _).alloc (by simp) _).mono hb0.size)
 refine ⟨D + 1, [{ target := .collected D, args := #[] }], V, { target := .fn (.func gf) lb, args := #[.func (.yield (D + 1)) #[] #[]] }, V, gf, #[.func (.yield (D + 1)) #[] #[]] ++ lb, V, ?_, ?_, ?_, ?_, fun _ => h1, ?_⟩
 ·
  subst hD; exact run_enterLoop_outer _ _ _ _ _
 ·
  simp only [resolve, hg]; simp [go_sem]
 ·
  intro f' hf'; simp [Target.leads] at hf'; subst hf'; exact hFg
 ·
  simp [invoke, go_sem, eg]
 -- the iterator's contract: beside the caller's invariant, the two blocks
 have away : ∀ {A : World} {row : Option Nat}, (∀ r, row = some r → V.heap.size ≤ r ∧ ∃ o : Obj, A.heap[r]? = some o ∧ o.isWalk = true) → ∀ r, row = some r → D ≤ r ∧ ∃ o : Obj, A.heap[r]? = some o ∧ o.isCells = false := fun hr r e => by
  obtain ⟨h2, o, ho, hw⟩ := hr r e
  exact ⟨by omega, o, ho, Obj.not_cells_of_walk hw⟩
 have abide : ∀ {A B : World} {row : Option Nat} {q : Nat} {o : Obj}, A.grownBy B row → (∀ r, row = some r → V.heap.size ≤ r ∧ ∃ o : Obj, A.heap[r]? = some o ∧ o.isWalk = true) → A.heap[q]? = some o → o.isWalk = false → B.heap[q]? = some o := fun hg hr h2 h3 =>
  (grownBy_keeps hg (fun r e => (hr r e).2) h2 h3).trans h2
 refine (hseq (D + 1) (fun pre W => I pre W ∧ W.heap[D + 1]? = some (rec0 .ready none) ∧ W.heap[D]? = some (.deferred (some [])))
  (fun pre W => ∃ c, Ix c pre W ∧ W.heap[D + 1]? = some (rec0 .done (some c)) ∧ W.heap[D]? = some (.deferred (some []))) V bV
  (fun s A B row hs hg' hr => ⟨hI s A B row hs.1 hg' (away hr), abide hg' hr hs.2.1 rfl, abide hg' hr hs.2.2 rfl⟩)
  (fun s A B row hs hg' hr => hs.elim fun c hc => ⟨c, hIx c s A B row hc.1 hg' (away hr), abide hg' hr hc.2.1 rfl, abide hg' hr hc.2.2 rfl⟩) ?_ ⟨iV, rV, dV⟩).mono ?_
 ·
  rintro pre x W ⟨hi, hl, hk⟩ hlen
  refine ⟨fn, _, assign, body, run_yield (P := P) (args := encs x) hl (hps x), roundIn_of_wpIn hfn (wpIn_mono (hround (D + 1) pre x W hi hlen) (fun e a1 W1 he => ?_))⟩
  cases e with
  | normal =>
   obtain ⟨k1, kp1, hb⟩ := he
   have hl1 := k1.same _ _ (by omega) hl rfl
   have hk1 := k1.same _ _ (Nat.le_refl _) hk rfl
   have hlt : D + 1 < W1.heap.size := (Array.getElem?_eq_some_iff.1 hl1).1
   refine ⟨_, run_beginRound hl1 rfl, wpIn_mono (hb _ ⟨by omega, _, _, hl1, rfl, rfl, rfl⟩) ?_⟩
   generalize hW2 : W1.putObj (D + 1) _ = W2
   have hl2 : W2.heap[D + 1]? = some (rec0 .busy none) := by rw [← hW2]; exact World.putObj_heap_same hlt
   have hk2 : W2.heap[D]? = some (.deferred (some [])) := by rw [← hW2]; exact (World.putObj_heap_other (by omega)).trans hk1
   have kp2 : Kp W W2 := by rw [← hW2]; exact hKt kp1 (hKb _ _ _ _ (by omega) hl1 rfl rfl)
   -- the record behind the body
   have fin : ∀ (jump : Option Code) (W3 : World), KeepsFrom D W2 W3 → W3.heap[D + 1]? = some (rec0 .busy none) ∧ W3.heap[D]? = some (.deferred (some [])) ∧
     (Instr.endRound (D + 1) jump).run P W3 = .ok (.bool jump.isNone) (W3.putObj (D + 1) (rec0 (if jump.isNone then .ready else .done) jump)) := fun jump W3 k3 =>
    ⟨k3.same _ _ (by omega) hl2 rfl, k3.same _ _ (Nat.le_refl _) hk2 rfl, run_endRound (P := P) jump (k3.same _ _ (by omega) hl2 rfl)⟩
   have rest : ∀ (st : LoopState) (pe : Option Code) (W3 : World), W3.heap[D + 1]? = some (rec0 .busy none) → W3.heap[D]? = some (.deferred (some [])) →
     (W3.putObj (D + 1) (rec0 st pe)).heap[D + 1]? = some (rec0 st pe) ∧ (W3.putObj (D + 1) (rec0 st pe)).heap[D]? = some (.deferred (some [])) := fun st pe W3 h2 h3 =>
    ⟨World.putObj_heap_same (Array.getElem?_eq_some_iff.1 h2).1, (World.putObj_heap_other (by omega)).trans h3⟩
   intro e2 a3 W3 hp
   cases e2 with
   | normal =>
    obtain ⟨k3, kp3, i3⟩ := hp
    obtain ⟨h2, h3, hrun⟩ := fin none W3 k3
    exact ⟨_, _, hrun, .inl ⟨rfl, ⟨hI.putObj _ i3 (by omega) h2 rfl, rest _ _ _ h2 h3⟩, hKt (hKt kp2 kp3) (hKb _ _ _ _ (by omega) h2 rfl rfl)⟩⟩
   | ret =>
    obtain ⟨h2, h3, hrun⟩ := fin (some .ret) W3 hp.1
    exact ⟨_, _, hrun, .inr ⟨rfl, .ret, (hIx _).putObj _ hp.2 (by omega) h2 rfl, rest _ _ _ h2 h3⟩⟩
   | exit id =>
    obtain ⟨h2, h3, hrun⟩ := fin (some (.exit id)) W3 hp.1
    exact ⟨_, _, hrun, .inr ⟨rfl, .exit id, (hIx _).putObj _ hp.2 (by omega) h2 rfl, rest _ _ _ h2 h3⟩⟩
   | goto t =>
    obtain ⟨h2, h3, hrun⟩ := fin (some (.goto t)) W3 hp.1
    exact ⟨_, _, hrun, .inr ⟨rfl, .goto t, (hIx _).putObj _ hp.2 (by omega) h2 rfl, rest _ _ _ h2 h3⟩⟩
   | panic ch => exact hp.elim
   | outgrown => exact hp.elim
  | exit id => exact he.elim
  | goto t => exact he.elim
  | ret => exact he.elim
  | panic ch => exact he.elim
  | outgrown => exact he.elim
 ·
  rintro e W2 ⟨⟨v, rfl⟩, (⟨xs, hS, hi, hl, hk⟩ | ⟨pre, hSp, c, hi, hl, hk⟩)⟩
  ·
   exact ⟨none, _, run_endLoop (P := P) hl (by simp), hdone D xs _ (by omega) hS (hI.putObj _ hi (by omega) hl rfl) ((World.putObj_heap_other (by omega)).trans hk)⟩
  ·
   exact ⟨some c, _, run_endLoop (P := P) hl (by simp), hstop D c pre _ (by omega) hSp ((hIx c).putObj _ hi (by omega) hl rfl) ((World.putObj_heap_other (by omega)).trans hk)⟩
end Go.Proofs.YtbckjgageofldaaGreat.Range
namespace Go.Proofs.YtbckjgageofldaaGreat
open Go.RowKit Go.Shelf
attribute [local go_sem] Oper.semAt_some
theorem turned_cells {B l q : Nat} {W W' : World} {cs : Array Value} {t : TypeId} {f : Nat × Nat} (h : Range.Turned B l W W') (hq : W.heap[q]? = some (.cells cs t f)) : W'.heap[q]? = some (.cells cs t f) := by
 obtain ⟨_, o, o', h2, h3, _, rfl⟩ := h
 have hne : q ≠ l := fun e => by subst e; rw [hq] at h2; cases h2; cases h3
 exact (World.putObj_heap_other hne).trans hq
theorem turned_below {B l n : Nat} {W W' : World} (hn : n ≤ B) (h : Range.Turned B l W W') : Below n W W' := by
 obtain ⟨h1, o, o', h2, _, _, rfl⟩ := h
 have hg := grownBy_putObj' W l o'
 exact ⟨hg.os, hg.tape, hg.output, hg.size, fun q hq => World.putObj_heap_other (by omega)⟩
theorem keepsFrom_below {B : Nat} {W W' : World} (h : Below W.heap.size W W') : KeepsFrom B W W' := ⟨h.size, fun k _ _ hk _ => (h.block k (Array.getElem?_eq_some_iff.1 hk).1).trans hk⟩
theorem keepsFrom_set {B : Nat} {W W3 : World} {a : Addr} {v : Value} (h : KeepsFrom B W W3) : KeepsFrom B W (W3.setCell a v) := h.trans ((KeepsOthers.setCell _ _ _).from B)
theorem TreeAt.set {w : World} {g i : Nat} {v x : Value} {t : TypeId} (h : BoxAt w g v t) : ∀ {T : Tr}, TreeAt w T → TreeAt (w.setCell ⟨g, i, none⟩ x) T
 | .nil, _ => trivial
 | .node b _ _ _ _ _, ⟨h1, h2, h3⟩ => ⟨(Below.heap_setCell _ _ _ _ (by
   show b ≠ g
   rintro rfl
   unfold NodeAt at h1
   unfold BoxAt at h
   rw [h1] at h
   simp [nodeCells] at h)).trans h1, TreeAt.set h h2, TreeAt.set h h3⟩
theorem KeptW.refl (w : World) : KeptW w w := Below.refl _ _
theorem KeptW.drew (w : World) : KeptW w w.drew := ⟨rfl, rfl, rfl, Nat.le_refl _, fun _ _ => rfl⟩
theorem below_own {W0 W W' : World} {row : Option Nat} {B0 : Nat} (hB : W0.heap.size ≤ B0) (h : Below W0.heap.size W0 W) (hg : W.grownBy W' row) (hr : ∀ r, row = some r → B0 ≤ r ∧ ∃ o : Obj, W.heap[r]? = some o ∧ o.isCells = false) : Below W0.heap.size W0 W' :=
 ⟨hg.os.trans h.os, hg.tape.trans h.tape, hg.output.trans h.output, Nat.le_trans h.size hg.size, fun q hq => (hg.block q (Nat.lt_of_lt_of_le hq h.size) (fun e => by have := (hr q e.symm).1; omega)).trans (h.block q hq)⟩
theorem calls_round {l n : Nat} {P : Program} {f : FuncId} {args : Array Value} {w : World} {R : Ending → World → Prop} (h : Calls P f args w R) : CallsIn (Fence.wide.inRound l) n P f args w R :=
 show CallsIn Fence.wide n P f args w R from callsIn_wide.2 h
end Go.Proofs.YtbckjgageofldaaGreat
namespace Go.Proofs.YtbckjgageofldaaGreat
open Go.RowKit Go.Shelf
attribute [local go_sem] Oper.semAt_some
def lastE (l m : LastV) : Bool := decide (l.seq.toNat = m.seq.toNat) && decide (l.code = m.code) && decide (l.text.toList = m.text.toList)
theorem lastE_iff {l m : LastV} : lastE l m = true ↔ l = m := by
 unfold lastE
 simp only [Bool.and_eq_true, decide_eq_true_eq]
 constructor
 ·
  rintro ⟨⟨h1, h2⟩, h3⟩
  obtain ⟨a, b, c⟩ := l
  obtain ⟨d, e, f⟩ := m
  simp only at h1 h2 h3
  have e1 := BitVec.eq_of_toNat_eq h1
  have e3 : c = f := by
   rw [ByteArray.toList_eq, ByteArray.toList_eq] at h3
   cases c; cases f
   simpa using h3
  subst e1 h2 e3
  rfl
 ·
  rintro rfl
  exact ⟨⟨rfl, rfl⟩, rfl⟩
theorem last_eql2 (l m : LastV) (d : Nat) (w : World) : (Op.equalIn (d + 3) 29 (.agg (lastCells l).toArray) (.agg (lastCells m).toArray)).run Tryz.prog w = .ok (lastE l m) w := by
 unfold lastCells lastE
 have i1 : ((l.seq.toNat : Int) = (m.seq.toNat : Int)) = (l.seq.toNat = m.seq.toNat) := by apply propext; omega
 have i2 : ((l.code : Int) = (m.code : Int)) = (l.code = m.code) := by apply propext; omega
 go_simp
 by_cases h1 : l.seq.toNat = m.seq.toNat <;> by_cases h2 : l.code = m.code <;> by_cases h3 : l.text.toList = m.text.toList <;> simp [h1, h2, h3]
end Go.Proofs.YtbckjgageofldaaGreat
namespace Go.Proofs.YtbckjgageofldaaGreat
open Go.RowKit
theorem wpList_make_lc {P : Program} (w : World) {ops : Array Oper} {rest : List Oper} {o : Oper} {a : Act} {Q : Exit → Act → World → Prop}
  (hg : o.guard = none) (l c : Operand) (t : TypeId) (hop : o.op = Op.makeSlice t l c)
  (e : TypeId) (i : TypeInfo) (z : Value) (h1 : P.underlying t = some (.slice e)) (h2 : P.info? e = some i) (h3 : i.zero = some z)
  (kl kc : IntKind) (L C : Int) (n m : Nat) (hl : a.eval l = .int kl L) (hc : a.eval c = .int kc C) (hL : L = (n : Int)) (hC : C = (m : Int)) (hLC : n ≤ m) (b2 : i.bytes * m ≤ 281474976710656) (b3 : m ≤ maxLen)
  (hK : wpList P ops Q rest (a.put o.dst (.slice (some ⟨w.heap.size, 0, none⟩) n m)) (w.alloc (.cells (madeCells z.cells (m * i.size)) e))) :
  wpList P ops Q (o :: rest) a w := by
 refine wpList_plain hg fun K hK' => ?_
 subst hL
 subst hC
 unfold maxLen at b3
 have hb' : (i.bytes : Int) * (m : Int) ≤ 281474976710656 := by
  have h : ((i.bytes * m : Nat) : Int) ≤ 281474976710656 := by omega
  rwa [Int.natCast_mul] at h
 have hr := run_make (P := P) w t e i z h1 h2 h3 kl kc n m (by omega) (by omega) hb' (by omega)
 simp only [Int.toNat_natCast] at hr
 unfold Oper.wp
 simp [execOp, hop, hl, hc, hr, Result.andThen]
 exact hK' _ _ hK
def bcells (l : List UInt8) : List Value := l.map fun b => Value.int .u8 b.toNat
theorem bcells_len (l : List UInt8) : (bcells l).length = l.length := by simp [bcells]
theorem bcells_one (l : List UInt8) : ∀ u ∈ bcells l, u.oneCell' = true := by
 intro u hu
 simp only [bcells, List.mem_map] at hu
 obtain ⟨b, _, rfl⟩ := hu
 rfl
theorem bcells_get {l : List UInt8} {j : Nat} (hj : j < l.length) : (bcells l)[j]? = some (.int .u8 (l[j].toNat : Int)) := by
 unfold bcells
 rw [List.getElem?_map, List.getElem?_eq_getElem hj]
 rfl
theorem bcells_app (l k : List UInt8) : bcells (l ++ k) = bcells l ++ bcells k := by simp [bcells]
theorem bcells_str (s : ByteArray) : Lib.strCells s = bcells s.data.toList := rfl
structure ReadB (w : World) (v : Value) (l : List UInt8) : Prop where
 out : ∃ a cap, v = .slice a l.length cap ∧ (a = none → cap = 0) ∧ ∀ j u, (bcells l)[j]? = some u → ∃ b o, a = some ⟨b, o, none⟩ ∧ b < w.heap.size ∧ w.cell? ⟨b, o + j, none⟩ = some u
theorem ReadB.below {w w' : World} {v : Value} {l : List UInt8} (h : ReadB w v l) (hb : Below w.heap.size w w') : ReadB w' v l := by
 obtain ⟨a, cap, e, h0, h2⟩ := h.out
 exact ⟨a, cap, e, h0, fun j u hj => by obtain ⟨b, o, e1, e2, e3⟩ := h2 j u hj; exact ⟨b, o, e1, Nat.lt_of_lt_of_le e2 hb.size, (hb.cell (p := ⟨b, _, none⟩) e2).trans e3⟩⟩
theorem ReadB.slice {w : World} {v : Value} {l : List UInt8} (h : ReadB w v l) : ∃ a n c, v = .slice a n c := by
 obtain ⟨a, cap, e, _⟩ := h.out
 exact ⟨a, _, cap, e⟩
theorem ReadB.nil (w : World) : ReadB w (.slice none 0 0) [] := ⟨none, 0, rfl, fun _ => rfl, fun j u hj => by simp [bcells] at hj⟩
theorem ReadB.conv {P : Program} {w : World} {v : Value} {l : List UInt8} {src dst e : TypeId} (h : ReadB w v l) (hs : P.underlying src = some (.slice e)) (he : P.underlying e = some (.int .u8)) (hd : P.underlying dst = some .string) :
  (convert src dst v).run P w = .ok (.string ⟨l.toArray⟩) w := by
 obtain ⟨a, cap, rfl, _, h2⟩ := h.out
 match l, h2 with
 | [], _ =>
  cases a with
  | none => exact Lib.run_convert_nil_bytes w src dst e cap hs he hd
  | some a => exact run_convert_bytes_back w src dst e a cap [] hs he hd (fun j hj => by simp at hj)
 | b :: r, h2 =>
  obtain ⟨g, o, rfl, _, _⟩ := h2 0 _ (List.getElem?_eq_getElem (show 0 < (bcells (b :: r)).length by simp [bcells]))
  refine run_convert_bytes_back w src dst e ⟨g, o, none⟩ cap (b :: r) hs he hd (fun j hj => ?_)
  obtain ⟨g', o', e1, _, e3⟩ := h2 j (.int .u8 ((b :: r)[j].toNat : Int)) (bcells_get hj)
  cases e1
  rw [Addr.add_lit]
  exact e3
theorem ReadB.cells (w : World) (l : List UInt8) (t : TypeId) (cs : Array Value) (hcs : cs = (bcells l).toArray) (cap : Nat) : ReadB (w.alloc (.cells cs t)) (.slice (some ⟨w.heap.size, 0, none⟩) l.length cap) l := by
 subst hcs
 refine ⟨some ⟨w.heap.size, 0, none⟩, cap, rfl, (fun e => by cases e), fun j u hj => ⟨w.heap.size, 0, rfl, by simp, ?_⟩⟩
 have h := heap_alloc_new w (.cells (bcells l).toArray t)
 unfold World.cell?
 simp only [h, Nat.zero_add]
 simpa using hj
theorem ReadB.one (w : World) (b : UInt8) (t : TypeId) : ReadB (w.alloc (.cells #[.int .u8 (b.toNat : Int)] t)) (.slice (some ⟨w.heap.size, 0, none⟩) 1 1) [b] := by
 refine ⟨some ⟨w.heap.size, 0, none⟩, 1, rfl, (fun e => by cases e), fun j u hj => ?_⟩
 match j, hj with
 | 0, hj =>
  rw [show bcells [b] = [.int .u8 (b.toNat : Int)] from rfl, List.getElem?_cons_zero, Option.some.injEq] at hj
  subst hj
  have h := heap_alloc_new w (.cells #[.int .u8 (b.toNat : Int)] t)
  refine ⟨w.heap.size, 0, rfl, by simp, ?_⟩
  unfold World.cell?
  simp only [h]
  rfl
theorem cells_one (v : Value) (t : TypeId) (w : World) : ∀ j u, [v][j]? = some u → (w.alloc (.cells #[v] t)).cell? ((⟨w.heap.size, 0, none⟩ : Addr).add j) = some u := by
 intro j u hj
 match j, hj with
 | 0, hj =>
  rw [List.getElem?_cons_zero, Option.some.injEq] at hj
  subst hj
  have h := heap_alloc_new w (.cells #[v] t)
  show (w.alloc (.cells #[v] t)).cell? ⟨w.heap.size, 0, none⟩ = _
  unfold World.cell?
  simp only [h]
  rfl
def OwnB (w : World) (base : Nat) (t : TypeId) (v : Value) (l : List UInt8) : Prop := w.ownsRow base t 1 v l.length (bcells l)
theorem OwnB.read {w : World} {base : Nat} {t : TypeId} {v : Value} {l : List UInt8} (h : OwnB w base t v l) : ReadB w v l := by
 unfold OwnB at h
 obtain ⟨h1, h2⟩ := h
 rcases h2 with ⟨rfl, h3⟩ | ⟨g, cap, cur, rfl, _, hg, _, _, hs, ht⟩
 ·
  have : l = [] := List.eq_nil_of_length_eq_zero h3
  subst this
  exact ReadB.nil w
 ·
  refine ⟨some ⟨g, 0, none⟩, cap, rfl, (fun e => by cases e), fun j u hj => ⟨g, 0, rfl, (Array.getElem?_eq_some_iff.1 hg).1, ?_⟩⟩
  have hjl : j < l.length := by
   have := (List.getElem?_eq_some_iff.1 hj).1
   rwa [bcells_len] at this
  rw [Nat.mul_one] at ht
  rw [← ht, List.getElem?_take, if_pos hjl, Array.getElem?_toList] at hj
  simp only [World.cell?, hg, Nat.zero_add]
  simpa using hj
theorem OwnB.below {w w' : World} {base : Nat} {t : TypeId} {v : Value} {l : List UInt8} (h : OwnB w base t v l) (hb : Below w.heap.size w w') : OwnB w' base t v l := by
 unfold OwnB at *
 obtain ⟨h1, h2⟩ := h
 refine ⟨h1, ?_⟩
 rcases h2 with h2 | ⟨g, cap, cur, e, h3, hg, h4⟩
 ·
  exact .inl h2
 ·
  exact .inr ⟨g, cap, cur, e, h3, (hb.block g (Array.getElem?_eq_some_iff.1 hg).1).trans hg, h4⟩
theorem OwnB.mono {w : World} {base base' : Nat} {t : TypeId} {v : Value} {l : List UInt8} (h : OwnB w base t v l) (hb : base' ≤ base) : OwnB w base' t v l := by
 unfold OwnB at *
 obtain ⟨h1, h2⟩ := h
 refine ⟨h1, ?_⟩
 rcases h2 with h2 | ⟨g, cap, cur, e, h3, h4⟩
 ·
  exact .inl h2
 ·
  exact .inr ⟨g, cap, cur, e, Nat.le_trans hb h3, h4⟩
theorem OwnB.setCell {w : World} {base : Nat} {t : TypeId} {v : Value} {l : List UInt8} {g i : Nat} {x : Value} (h : OwnB w base t v l) (hg : g < base) : OwnB (w.setCell ⟨g, i, none⟩ x) base t v l := by
 unfold OwnB at *
 obtain ⟨h1, h2⟩ := h
 refine ⟨h1, ?_⟩
 rcases h2 with h2 | ⟨q, cap, cur, e, h3, hq, h4⟩
 ·
  exact .inl h2
 ·
  exact .inr ⟨q, cap, cur, e, h3, (Below.heap_setCell _ _ _ _ (by show q ≠ g; omega)).trans hq, h4⟩
theorem OwnB.of {w : World} {base : Nat} {t : TypeId} {v : Value} {l k : List UInt8} {n : Nat} {xs : List Value} (h : w.ownsRow base t 1 v n xs) (hn : n = l.length + k.length) (hx : xs = bcells l ++ bcells k) : OwnB w base t v (l ++ k) := by
 subst hn hx
 unfold OwnB
 rw [bcells_app, List.length_append]
 exact h
theorem OwnB.splice {w : World} {base g cap : Nat} {t : TypeId} {l : List UInt8} {cur : List Value} (hg : w.heap[g]? = some (.cells (splice cur 0 (bcells l)).toArray t (0, 0))) (hb : base ≤ g) (hlen : cur.length = cap) (hl : l.length ≤ cap) (hm : cap ≤ maxLen) :
  OwnB w base t (.slice (some ⟨g, 0, none⟩) l.length cap) l := by
 refine ⟨by rw [bcells_len]; simp, .inr ⟨g, cap, _, rfl, hb, hg, hl, hm, ?_, ?_⟩⟩
 ·
  rw [List.size_toArray, length_splice _ _ _ (by rw [bcells_len]; omega)]
  omega
 ·
  rw [Nat.mul_one, show l.length = (bcells l).length from (bcells_len l).symm]
  simp [Go.splice]
theorem OwnB.one (w : World) (b : UInt8) (t : TypeId) : OwnB (w.alloc (.cells #[.int .u8 (b.toNat : Int)] t)) w.heap.size t (.slice (some ⟨w.heap.size, 0, none⟩) 1 1) [b] :=
 ⟨rfl, .inr ⟨w.heap.size, 1, _, rfl, Nat.le_refl _, heap_alloc_new w _, Nat.le_refl _, by unfold maxLen; omega, rfl, rfl⟩⟩
theorem wp_append_read {P : Program} {w : World} {o : Oper} {a : Act} {K : Act → World → Prop} {Q : Exit → Act → World → Prop} (s x : Operand) (t : TypeId)
  (ho : o.op = .call { callee := .builtin .append, args := #[s, x], argTypes := #[t, t] })
  (base : Nat) (e : TypeId) (i : TypeInfo) (z : Value) (ht : P.underlying t = some (.slice e)) (hi : P.info? e = some i) (hz : i.zero = some z)
  (hsize : i.size = 1) (hby : i.bytes = 1) (hzs : z.cells.size = 1)
  (v : Value) (n : Nat) (xs : List Value) (hs : a.eval s = v) (hown : w.ownsRow base e 1 v n xs) (V : Value) (k : List UInt8) (hx : a.eval x = V) (hr : ReadB w V k)
  (h63 : n + k.length ≤ 140737488355328) (hbase : base ≤ w.heap.size)
  (h : ∀ v' w', w'.ownsRow base e 1 v' (n + k.length) (xs ++ bcells k) → w.grownBy w' v.ownBlock → K (a.put o.dst v') w') : o.wp P a w K Q := by
 obtain ⟨ad, cap, rfl, h0, h2⟩ := hr.out
 cases ad with
 | none =>
  obtain rfl := h0 rfl
  have hk : k = [] := by
   match k, h2 with
   | [], _ => rfl
   | b :: r, h2 =>
    obtain ⟨_, _, e1, _⟩ := h2 0 _ (bcells_get (show 0 < (b :: r).length by simp))
    cases e1
  subst hk
  have hrun := run_append_owned_none (P := P) (w := w) base t o.type e i 1 ht hi v n xs hown
  have hh := h v w (by simpa [bcells] using hown) (World.grownBy.refl w _)
  have hx' : a.eval x = .slice none 0 0 := hx
  unfold Oper.wp
  simp [execOp, ho, resolve, invoke, builtin, hs, hx', hrun, Result.andThen]
  exact hh
 | some ad =>
  refine wp_append_own w s x t ho base e i z 1 1 ht hi hz hsize hby hzs (by omega) v n xs hs hown ad k.length cap (bcells k) hx (by rw [bcells_len, Nat.mul_one]) (fun j u hj => ?_) (bcells_one k) (by unfold maxLen; omega) (by omega) hbase (fun v' w' h3 h4 _ => h v' w' h3 h4)
  obtain ⟨b, o', e1, _, e3⟩ := h2 j u hj
  cases e1
  rw [Addr.add_lit]
  exact e3
theorem wpList_append_read {P : Program} {w : World} {ops : Array Oper} {rest : List Oper} {o : Oper} {a : Act} {Q : Exit → Act → World → Prop} (hgd : o.guard = none) (s x : Operand) (t : TypeId)
  (ho : o.op = .call { callee := .builtin .append, args := #[s, x], argTypes := #[t, t] })
  (base : Nat) (e : TypeId) (i : TypeInfo) (z : Value) (ht : P.underlying t = some (.slice e)) (hi : P.info? e = some i) (hz : i.zero = some z)
  (hsize : i.size = 1) (hby : i.bytes = 1) (hzs : z.cells.size = 1)
  (v : Value) (n : Nat) (xs : List Value) (hs : a.eval s = v) (hown : w.ownsRow base e 1 v n xs) (V : Value) (k : List UInt8) (hx : a.eval x = V) (hr : ReadB w V k)
  (h63 : n + k.length ≤ 140737488355328) (hbase : base ≤ w.heap.size)
  (h : ∀ v' w', w'.ownsRow base e 1 v' (n + k.length) (xs ++ bcells k) → w.grownBy w' v.ownBlock → wpList P ops Q rest (a.put o.dst v') w') : wpList P ops Q (o :: rest) a w :=
 wpList_plain hgd fun _ hK => wp_append_read s x t ho base e i z ht hi hz hsize hby hzs v n xs hs hown V k hx hr h63 hbase fun v' w' h3 h4 => hK _ _ (h v' w' h3 h4)
theorem below_grown {w w' : World} {row : Option Nat} {n : Nat} {w0 : World} (hg : w.grownBy w' row) (hb : Below n w0 w) (hn : n ≤ w.heap.size) (hr : ∀ k, row = some k → n ≤ k) : Below n w0 w' :=
 hb.trans ⟨hg.os, hg.tape, hg.output, hg.size, fun k hk => hg.block k (Nat.lt_of_lt_of_le hk hn) (fun e => by have := hr k e.symm; omega)⟩
end Go.Proofs.YtbckjgageofldaaGreat
namespace Go.Proofs.YtbckjgageofldaaGreat
open Go.RowKit
open Go.Shelf
def wid (n : Nat) : Nat := if n = 0 then 0 else if n < 256 then 1 else if n < 65536 then 2 else if n < 16777216 then 3 else if n < 4294967296 then 4 else if n < 1099511627776 then 5 else if n < 281474976710656 then 6 else if n < 72057594037927936 then 7 else 8
def bigB : Nat → Nat → List UInt8
 | 0, _ => []
 | k + 1, n => UInt8.ofNat (n / 256 ^ k) :: bigB k n
def numL (n : Nat) : List UInt8 := if n < 248 then [UInt8.ofNat n] else UInt8.ofNat (247 + wid n) :: bigB (wid n) n
theorem bigB_len : ∀ k n, (bigB k n).length = k
 | 0, _ => rfl
 | k + 1, n => by simp [bigB, bigB_len k n]
theorem wid_le (n : Nat) : wid n ≤ 8 := by
 unfold wid
 repeat' split
 all_goals omega
theorem wid_pos {n : Nat} (h : n ≠ 0) : 1 ≤ wid n := by
 unfold wid
 rw [if_neg h]
 repeat' split
 all_goals omega
theorem numL_len (n : Nat) : (numL n).length ≤ 9 ∧ 1 ≤ (numL n).length := by
 unfold numL
 have := wid_le n
 split
 ·
  simp
 ·
  simp [bigB_len]; omega
theorem len_most (n : Nat) (hn : n < 2 ^ 64) : Lib.bitLen n ≤ 64 := Lib.bitLen_le n 64 (by omega) hn
theorem len_eq (n : Nat) (_ : n ≠ 0) (hn : n < 2 ^ 64) (k : Nat) (h : 2 ^ k ≤ n) (h2 : n < 2 ^ (k + 8)) (hk : k + 8 ≤ 64) : k < Lib.bitLen n ∧ Lib.bitLen n ≤ k + 8 := by
 refine ⟨?_, Lib.bitLen_le n (k + 8) hk h2⟩
 have e := Lib.bitLen_shift k n h hn
 have h3 : n / 2 ^ k ≠ 0 := by
  have : 0 < n / 2 ^ k := Nat.div_pos h (Nat.two_pow_pos k)
  omega
 have h4 := Lib.bitLen_half (n / 2 ^ k) h3 (Nat.lt_of_le_of_lt (Nat.div_le_self _ _) hn)
 omega
theorem len_wid (n : Nat) (hn : n < 18446744073709551616) : (Lib.bitLen n + 7) / 8 = wid n := by
 have h64 : n < 2 ^ 64 := hn
 unfold wid
 by_cases h0 : n = 0
 ·
  subst h0; rw [if_pos rfl]; decide
 rw [if_neg h0]
 repeat' split
 ·
  have := len_eq n h0 h64 0 (by omega) (by omega) (by omega); omega
 ·
  have := len_eq n h0 h64 8 (by omega) (by omega) (by omega); omega
 ·
  have := len_eq n h0 h64 16 (by omega) (by omega) (by omega); omega
 ·
  have := len_eq n h0 h64 24 (by omega) (by omega) (by omega); omega
 ·
  have := len_eq n h0 h64 32 (by omega) (by omega) (by omega); omega
 ·
  have := len_eq n h0 h64 40 (by omega) (by omega) (by omega); omega
 ·
  have := len_eq n h0 h64 48 (by omega) (by omega) (by omega); omega
 ·
  have := len_eq n h0 h64 56 (by omega) (by omega) (by omega); omega
def len64_ren : Go.Shelf.Ren := ⟨fun | 129 => 160 | n => n, fun | 3 => 3 | 4 => 4 | 5 => 5 | 9 => 9 | 46 => 250 | 53 => 22 | n => n, fun n => n⟩
theorem len64_lays : Lays.n129 Tryz.prog len64_ren :=
  { mixed := by kernel_rfl, f129 := by kernel_rfl
    t3 := by kernel_rfl, a3 := fun _ => by kernel_rfl, z3 := fun _ => by kernel_rfl, v3 := fun _ => by kernel_rfl
    t4 := by kernel_rfl, a4 := fun _ => by kernel_rfl, z4 := fun _ => by kernel_rfl, v4 := fun _ => by kernel_rfl
    t5 := by kernel_rfl, a5 := fun _ => by kernel_rfl, z5 := fun _ => by kernel_rfl, v5 := fun _ => by kernel_rfl
    t9 := by kernel_rfl, a9 := fun _ => by kernel_rfl, z9 := fun _ => by kernel_rfl, v9 := fun _ => by kernel_rfl
    t46 := by kernel_rfl, a46 := fun _ => by kernel_rfl, z46 := fun _ => by kernel_rfl, v46 := fun _ => by kernel_rfl
    t53 := by kernel_rfl, a53 := fun _ => by kernel_rfl, z53 := fun _ => by kernel_rfl, v53 := fun _ => by kernel_rfl
  }
theorem len64_any (n : Nat) (hn : n < 18446744073709551616) (w : World) : Calls Tryz.prog 160 #[.int .u64 (n : Int)] w fun e w' => e = .returned (.int .i64 (Lib.bitLen n : Int)) ∧ w = w' := by
 have h := Any.bits_Len64 len64_lays (n : Int) w (by omega) (by omega)
 rw [Int.toNat_natCast] at h
 exact h.mono fun e w' hh => ⟨hh.1, hh.2.symm⟩
theorem width_any (n : Nat) (hn : n < 18446744073709551616) (w : World) : Calls Tryz.prog 106 #[.int .u64 (n : Int)] w fun e w' => e = .returned (.int .i64 (wid n : Int)) ∧ w = w' := by
 have H := Lib.hid (len64_any n hn w)
 have hm := len_most n hn
 have hq := len_wid n hn
 rw [← hq]
 clear hq
 generalize Lib.bitLen n = L at *
 go_enter Tryz.func106, Tryz.ntmps106
 go_wp2_with ((with_reducible refine H.out.mono ?_); rintro e w' ⟨rfl, rfl⟩)
 go_ret
 refine ⟨congrArg Ending.returned (congrArg (Value.int IntKind.i64) ?_), rfl⟩
 try rw [IntKind.wrap_i64]
 omega
end Go.Proofs.YtbckjgageofldaaGreat
