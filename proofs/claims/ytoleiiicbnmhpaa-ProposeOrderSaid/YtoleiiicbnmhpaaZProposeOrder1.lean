/- Slices of one-cell elements, opened; of bytes. Over any program. No condition. -/
import Derived.Test.YtoleiiicbnmhpaaZProposeOrder0
import Derived.OrdersHeld
import Derived.OrdersIn
import Derived.RangeFuncKeeps
import Derived.RangeFuncBound
import Derived.RangeFuncLeaves
import Derived.RangeFuncNested
import Derived.RangeFuncCalls
import Derived.Shelf.Abstract
import Derived.Shelf.RegionOpen
import Derived.OwnWalkIn
import Derived.TacticsInMore
import Derived.LoopNIn
import Derived.LoopIn
import Derived.RangeFuncFrom
import Derived.Laws.EntriesVeiled
import Derived.OwnWalk
import Derived.Maps.AppendAt
import Derived.Laws.AppendOwnNone
import Derived.Deep.DeepCutAuto
import Derived.Test.YtoleiiicbnmhpaaRows
import Derived.WalkKit
import Derived.WalkSpells
import Derived.WalkLawsBesides
import Derived.Lib.Hide
import Derived.IntWalk
import Derived.RangeFuncWrites
import Derived.Laws.CopyOwn
import Derived.Laws.MakeOwn
import Derived.Lib.AppendStr
import Derived.Below
import Derived.Laws.IdiomStrings
import Derived.Lib.BufferRead
import Derived.Test.YtoleiiicbnmhpaaChecked
import Derived.ProofKit
import Derived.Shelf.Strconv.Itoa0
import Derived.StillTailTactics
import Derived.Deep.MidRow
import Derived.Maps.OwnSet
import Derived.Maps.OwnOps
namespace Go.Proofs.Ytoleiiicbnmhpaa
open Go.ChangeShapes Go.WideShapes Go.Deep Go.RowKit
section
variable {H : Type} {enc : TypeId × Value → H} {P : Program} {w : World} {base : Nat} {spare : Nat → Bool} {held : Bool}
theorem ones_open {α : Type} [Inhabited α] (one : α → Value) {t e : TypeId} {a : Option Addr} {len cap : Nat} {d : DataW H} {pl : List MemPlace} (ht : P.underlying t = some (.slice e)) (hC : P.cellsOf e = 1)
    (hx : ∀ (v : Value) (y : DataW H × List MemPlace) (n : Nat), DataW.trod enc P w base spare held n e [v] = some y → ∃ x : α, v = one x)
    (h : DataW.Trod enc P w base spare held t (.slice a len cap) d pl) : ∃ z : List α, SliceAt 1 (fun x => [one x]) w a len z := by
  obtain ⟨m, hm⟩ := h
  rcases open_slice ht hm with ⟨h0, _⟩ | ⟨p, ln, cp, mm, n, D, Pl, hcs, hb, hl, hmx, hmm, _, hi⟩
  · have h0' : [Value.slice a len cap] = [Value.slice none 0 0] := h0
    simp only [List.cons.injEq, Value.slice.injEq, and_true] at h0'
    obtain ⟨rfl, rfl, rfl⟩ := h0'
    exact ⟨[], rfl, Nat.zero_le _, fun i x hx => by simp at hx⟩
  · have h0' : [Value.slice a len cap] = [Value.slice (some p) ln cp] := hcs
    simp only [List.cons.injEq, Value.slice.injEq, and_true] at h0'
    obtain ⟨rfl, rfl, rfl⟩ := h0'
    have hlm : len ≤ mm := by rw [hmm]; split <;> omega
    obtain ⟨g, hg⟩ := choose_lt (n := len) (p := fun i (x : α) => w.cells? base (p.add (i * 1)) 1 = some [one x]) (fun i hil => by
      obtain ⟨cs', h1, h2⟩ := hi i (by omega)
      rw [hC] at h1
      obtain ⟨_, hcl, _⟩ := World.cells?_some h1
      match cs', hcl with
      | [v], _ =>
        obtain ⟨x, rfl⟩ := hx v _ _ h2
        exact ⟨x, h1⟩)
    refine ⟨(List.range len).map g, by simp, by omega, fun i x hix => ?_⟩
    have hil : i < len := by
      have := (List.getElem?_eq_some_iff.1 hix).1
      simpa using this
    have hgx : g i = x := by simpa [hil] using hix
    have h1 := hg i hil
    rw [hgx] at h1
    obtain ⟨_, _, hcell⟩ := World.cells?_some h1
    obtain ⟨b, o, sp⟩ := p
    have g1 := hg 0 (by omega)
    obtain ⟨_, _, gcell⟩ := World.cells?_some g1
    have h00 := gcell 0 (by omega)
    simp only [List.getElem?_cons_zero] at h00
    have hspot : sp = none := by simpa [Addr.add] using World.cell?_spot h00
    subst hspot
    have hlt := World.block_lt_of_cell? _ _ h00
    refine ⟨b, o, rfl, ?_, fun j v hj => ?_⟩
    · simpa [Addr.add] using hlt
    · have hjl : j < 1 := by
        have := (List.getElem?_eq_some_iff.1 hj).1
        simpa using this
      have := hcell j hjl
      rw [add_add, hj] at this
      rw [← this, add_plain]
end
/-- The elements of a []uint8. -/
abbrev U8sAt := SliceAt 1 (fun x : BitVec 8 => [Value.int .u8 (x.toNat : Int)])
theorem u8s_cell {w : World} {a : Option Addr} {len : Nat} {z : List (BitVec 8)} (h : U8sAt w a len z) {i : Nat} (hi : i < len) :
    ∃ b o, a = some ⟨b, o, none⟩ ∧ b < w.heap.size ∧ ∀ y, Below w.heap.size w y → y.cell? ⟨b, o + i, none⟩ = some (.int .u8 ((z.getD i default).toNat : Int)) := by
  have hl := h.hlen
  have hz : z[i]? = some (z.getD i default) := by simp [List.getD, List.getElem?_eq_getElem (show i < z.length by omega)]
  obtain ⟨b, o, h1, h2, h3⟩ := h.cells i _ hz
  refine ⟨b, o, h1, h2, fun y hy => (hy.cell (p := ⟨b, _, none⟩) h2).trans ?_⟩
  have := h3 0 _ rfl
  rwa [show o + (i * 1 + 0) = o + i by omega] at this
end Go.Proofs.Ytoleiiicbnmhpaa
namespace Go.Proofs.Ytoleiiicbnmhpaa.RegIn
open Go
section
variable {F : Fence} {n : Nat} {P : Program} {ops : Array Oper} {Q : Exit → Act → World → Prop} {md : Region.Mode}
/-- It calls nothing, or what is built in. -/
def noCall (o : Oper) : Bool := match o.op with
  | .call c => (match c.callee with | .builtin _ => true | _ => false)
  | _ => true
theorem about_none {o : Oper} (h : noCall o = true) (w : World) (ρ : Operand → Value) : o.about P w ρ = none := by
  unfold noCall at h
  unfold Oper.about
  cases ho : o.op <;> rw [ho] at h <;> first | rfl | skip
  rename_i c
  simp only at h ⊢
  cases hc : c.callee <;> rw [hc] at h <;> first | (cases h; done) | skip
  simp [resolve, hc, Target.leads]
theorem yif_op {R : World → Prop} {i : Nat} {o : Oper} {v : Value} {a : Act} (hro : F.round = none) (hi : ops[i]? = some o) (hy : YieldsIf P ops R o v a) (hc : noCall o = true)
    {K : Act → World → Prop} {w : World} (hR : R w) (h : K (a.put o.dst v) w) : wpOpIn F n P ops Q i K a w := by
  unfold Go.wpOpIn
  simp only [hi]
  have hab : ∀ f, o.about P w a.eval = some f → F.fn f := fun f hf => by rw [about_none hc] at hf; cases hf
  rcases hy with ⟨hw, hv⟩ | ⟨hw, rfl⟩
  · simp only [hw, if_true, Oper.wpIn, hro, Oper.semAt_none, hv w hR, Oper.uponIn]; exact ⟨hab, h⟩
  · simp only [hw, Bool.false_eq_true, if_false]; exact ⟨hab, h⟩
theorem putIf {R : World → Prop} {j : Nat} {oi oj : Oper} {v : Value} (hro : F.round = none) (hj : ops[j]? = some oj) (hap : oi.apart ops oj = true)
    (hsi : ∀ cs b, oi.op ≠ .select cs b) (hsj : ∀ cs b, oj.op ≠ .select cs b)
    (hQ : ∀ c a w, Q (.panic c) (a.put oi.dst v) w → Q (.panic c) a w) {K : Act → World → Prop} {a : Act} {w : World}
    (hy : YieldsIf P ops R oi v a) (h : wpOpIn F n P ops Q j K (a.put oi.dst v) w) :
    wpOpIn F n P ops Q j (fun a' w' => YieldsIf P ops R oi v a' ∧ K (a'.put oi.dst v) w') a w := by
  obtain ⟨h1, h2, h3⟩ := Oper.apart_spec hap
  have keep : ∀ (a : Act), YieldsIf P ops R oi v a → ∀ u, YieldsIf P ops R oi v (a.put oj.dst u) := fun a hy u =>
    hy.of_same (execOp_put oi hsi a oj.dst u h3) (wanted_put oi a oj.dst u h3)
  have keepD : ∀ d, YieldsIf P ops R oi v { a with defers := d :: a.defers } := fun d => hy.of_same rfl rfl
  unfold wpOpIn at *
  simp only [hj] at *
  rw [wanted_put oj a oi.dst v h1, about_put oj w a oi.dst v h1] at h
  split
  · rename_i hw
    simp only [hw, if_true] at h
    unfold Oper.wpIn at *
    rw [about_put oj w a oi.dst v h1] at h
    refine ⟨h.1, ?_⟩
    have h := h.2
    rw [hro, Oper.semAt_none, execOp_put oj hsj a oi.dst v h1] at h
    rw [hro, Oper.semAt_none]
    generalize (execOp a.eval oj).run P w = r at *
    cases r with
    | ok x w' =>
      cases x <;> simp only [Oper.uponIn] at h ⊢
      case value u => exact ⟨keep a hy u, by rw [← Act.put_comm a v u h2]; exact h⟩
      case skip => exact ⟨keep a hy _, by rw [← Act.put_comm a v undef h2]; exact h⟩
      case defer d =>
        refine ⟨keep _ (keepD d) _, ?_⟩
        rw [← Act.put_comm _ v undef h2, ← Act.put_defers]
        exact h
      case enter f args =>
        refine ⟨h.1, CallsIn.mono h.2 fun e w'' he => ?_⟩
        cases e with
        | returned u => exact ⟨keep a hy u, by rw [← Act.put_comm a v u h2]; exact he⟩
        | panicked c => exact hQ _ _ _ he
        | outgrown => exact he
      case row row args => exact ⟨h.1, RowsIn.mono h.2 fun u w'' he => ⟨keep a hy u, by rw [← Act.put_comm a v u h2]; exact he⟩⟩
      case round l f tmps assign body =>
        refine ⟨h.1, RoundIn.mono h.2 fun e w'' he => ?_⟩
        cases e with
        | returned u => exact ⟨keep a hy u, by rw [← Act.put_comm a v u h2]; exact he⟩
        | panicked c => exact hQ _ _ _ he
        | outgrown => exact he
    | halt x w' =>
      cases x <;> simp only [Oper.uponIn] at h ⊢
      case panic u => exact hQ _ _ _ h
  · rename_i hw
    simp only [hw] at h
    exact ⟨h.1, keep a hy _, by rw [← Act.put_comm a v undef h2]; exact h.2⟩
/-- What number j waits for. -/
def onsOf (md : Region.Mode) (ops : Array Oper) (j : Nat) : List Nat := match ops[j]? with
  | some o => (o.after.toList.filter (Region.binds md)).map (·.on)
  | none => []
/-- What those wait for, and so on, each number looked at once, downwards. -/
def back (md : Region.Mode) (ops : Array Oper) : Nat → List Nat → List Nat
  | 0, l => l
  | i + 1, l => back md ops i (if l.contains i then onsOf md ops i ++ l else l)
/-- What a listed operation waits for is listed. -/
def Closed (md : Region.Mode) (ops : Array Oper) (listed : Array Bool) : Prop := ∀ j, listed.getD j false = true → ∀ e ∈ onsOf md ops j, listed.getD e false = true
theorem back_listed {listed : Array Bool} (h : Closed md ops listed) : ∀ (m : Nat) (l : List Nat), (∀ j ∈ l, listed.getD j false = true) → ∀ j ∈ back md ops m l, listed.getD j false = true
  | 0, _, hl, j, hj => hl j hj
  | m + 1, l, hl, j, hj => back_listed h m _ (fun k hk => by
      split at hk
      · rename_i hc
        rcases List.mem_append.1 hk with hk | hk
        · exact h m (hl m (by simpa using hc)) k hk
        · exact hl k hk
      · exact hl k hk) j hj
theorem ready_ons {listed : Array Bool} {j : Nat} (h : j ∈ Region.ready md ops listed) : ∀ e ∈ onsOf md ops j, listed.getD e false = true := by
  obtain ⟨_, o, ho, hall⟩ := mem_ready.1 h
  intro e he
  simp only [onsOf, ho, List.mem_map, List.mem_filter] at he
  obtain ⟨q, ⟨h1, h2⟩, rfl⟩ := he
  exact hall q (by simpa using h1) h2
theorem Closed.set {listed : Array Bool} {i : Nat} (h : Closed md ops listed) (hi : i ∈ Region.ready md ops listed) : Closed md ops (listed.setIfInBounds i true) := by
  intro j hj e he
  by_cases hij : i = j
  · subst hij; exact getD_set_true (ready_ons hi e he)
  · rw [getD_set_ne false hij] at hj
    exact getD_set_true (h j hj e he)
theorem Closed.none (n : Nat) : Closed md ops (Array.replicate n false) := by
  intro j hj
  have : (Array.replicate n false).getD j false = false := by
    simp only [Array.getD_eq_getD_getElem?, Array.getElem?_replicate]
    split <;> rfl
  rw [this] at hj
  cases hj
theorem bar_not {bar : Nat → Bool} {listed : Array Bool} {i j : Nat} (h : Closed md ops listed) (hj : j ∈ Region.ready md ops listed) (hi : i ∈ Region.ready md ops listed)
    (hb : bar j = true → i ∈ back md ops ops.size (onsOf md ops j)) : bar j = false := by
  rw [Bool.eq_false_iff]
  intro hbj
  obtain ⟨h0, o, ho, _⟩ := mem_ready.1 hi
  have h4 := back_listed h _ _ (ready_ons hj) i (hb hbj)
  rcases Nat.lt_or_ge i listed.size with h' | h'
  · simp [h'] at h0 h4; rw [h0] at h4; cases h4
  · simp [Array.getElem?_eq_none h'] at h4
/-- Behind one operation: the world lies in the class still (behind an operation that waits for all before it: in any class). -/
def Into (b : Bool) (R : World → Prop) (K : (World → Prop) → Act → World → Prop) (a : Act) (w : World) : Prop := ∃ R' : World → Prop, R' w ∧ (b = true ∨ R' = R) ∧ K R' a w
def anyR (bar : Nat → Bool) (F : Fence) (n : Nat) (P : Program) (md : Region.Mode) (ops : Array Oper) (Q : Exit → Act → World → Prop) : Nat → Array Bool → (World → Prop) → Act → World → Prop
  | 0, listed, _, a, w => Region.ready md ops listed = [] ∧ Q .normal a w
  | fuel + 1, listed, R, a, w => (Region.ready md ops listed = [] → Q .normal a w) ∧
      ∀ i ∈ Region.ready md ops listed, wpOpIn F n P ops Q i (Into (bar i) R (fun R' a' w' => anyR bar F n P md ops Q fuel (listed.setIfInBounds i true) R' a' w')) a w
theorem any_of {bar : Nat → Bool} : ∀ (fuel : Nat) (listed : Array Bool) (R : World → Prop) (a : Act) (w : World), anyR bar F n P md ops Q fuel listed R a w → wpAnyIn F n P md ops Q fuel listed a w
  | 0, _, _, _, _, h => h
  | fuel + 1, _, _, _, _, h => ⟨h.1, fun i hi => wpOpIn_mono (fun a' w' ⟨R', _, _, h3⟩ => any_of fuel _ R' a' w' h3) (h.2 i hi)⟩
theorem first {bar : Nat → Bool} {i : Nat} {oi : Oper} {v : Value} (hro : F.round = none) (hi : ops[i]? = some oi) (hc : noCall oi = true) (hsel : ∀ (j : Nat) (o : Oper) cs b, ops[j]? = some o → o.op ≠ .select cs b)
    (hQ : ∀ c a w, Q (.panic c) (a.put oi.dst v) w → Q (.panic c) a w) :
    ∀ (fuel : Nat) (listed : Array Bool) (R : World → Prop) (a : Act) (w : World),
      (∀ j oj, ops[j]? = some oj → j ≠ i → listed.getD j true = false → (∀ e ∈ oj.after, Region.binds md e = true → e.on ≠ i) → oi.apart ops oj = true) →
      (∀ j, listed.getD j true = false → j ≠ i → bar j = true → i ∈ back md ops ops.size (onsOf md ops j)) → Closed md ops listed → i ∈ Region.ready md ops listed → R w → YieldsIf P ops R oi v a →
      anyR bar F n P md ops Q fuel (listed.setIfInBounds i true) R (a.put oi.dst v) w → anyR bar F n P md ops Q (fuel + 1) listed R a w := by
  intro fuel
  induction fuel with
  | zero =>
    intro listed R a w _ _ _ hr hR hy H
    refine ⟨fun h => (by rw [h] at hr; cases hr), fun j hj => ?_⟩
    by_cases hji : j = i
    · subst hji; exact yif_op hro hi hy hc hR ⟨R, hR, .inr rfl, H⟩
    · have := ready_mono hj hji
      rw [H.1] at this
      cases this
  | succ fuel ih =>
    intro listed R a w hfree hbar hcl hr hR hy H
    refine ⟨fun h => (by rw [h] at hr; cases hr), fun j hj => ?_⟩
    by_cases hji : j = i
    · subst hji; exact yif_op hro hi hy hc hR ⟨R, hR, .inr rfl, H⟩
    · have h1 := H.2 j (ready_mono hj hji)
      obtain ⟨hjun, oj, hoj, hall⟩ := mem_ready.1 hj
      have hnot : ∀ e ∈ oj.after, Region.binds md e = true → e.on ≠ i := fun e he hb heq => by
        have h1 := hall e he hb
        have h0 := (mem_ready.1 hr).1
        rw [heq] at h1
        rcases Nat.lt_or_ge i listed.size with h' | h'
        · simp [h'] at h0 h1; rw [h0] at h1; cases h1
        · simp [Array.getElem?_eq_none h'] at h1
      have hb : bar j = false := bar_not hcl hj hr (hbar j hjun hji)
      have h2 := putIf hro hoj (hfree j oj hoj hji hjun hnot) (fun cs b => hsel i oi cs b hi) (fun cs b => hsel j oj cs b hoj) hQ hy h1
      have hfree' : ∀ k ok, ops[k]? = some ok → k ≠ i → (listed.setIfInBounds j true).getD k true = false →
          (∀ e ∈ ok.after, Region.binds md e = true → e.on ≠ i) → oi.apart ops ok = true := fun k ok hk hki hun hno => by
        refine hfree k ok hk hki ?_ hno
        by_cases hjk : j = k
        · subst hjk; exact hjun
        · rw [getD_set_ne true hjk] at hun; exact hun
      have hbar' : ∀ k, (listed.setIfInBounds j true).getD k true = false → k ≠ i → bar k = true → i ∈ back md ops ops.size (onsOf md ops k) := fun k hun hki hbk => by
        refine hbar k ?_ hki hbk
        by_cases hjk : j = k
        · subst hjk; exact hjun
        · rw [getD_set_ne true hjk] at hun; exact hun
      refine wpOpIn_mono (fun a' w' ⟨hy', R', hR', hor, hK⟩ => ?_) h2
      obtain rfl : R' = R := hor.resolve_left (by simp [hb])
      refine ⟨R', hR', .inr rfl, ih (listed.setIfInBounds j true) R' a' w' hfree' hbar' (hcl.set hj) (ready_mono hr (Ne.symm hji)) hR' hy' ?_⟩
      rw [Array.setIfInBounds_comm _ _ hji]
      exact hK
/-- The walk in the order that is handed in: 0: the operation only reads (in every world of R), and calls nothing; 1: it may turn the world, within R; else: it may turn the world anyhow, and waits for all that came before it. -/
def can (F : Fence) (n : Nat) (P : Program) (ops : Array Oper) (Q : Exit → Act → World → Prop) : List (Oper × Nat) → (World → Prop) → Act → World → Prop
  | [], _, a, w => Q .normal a w
  | (o, 0) :: r, R, a, w =>
    if Region.wanted o (yielded ops a.tmps) then ∃ v, (∀ x, R x → (execOp a.eval o).run P x = .ok (.value v) x) ∧ can F n P ops Q r R (a.put o.dst v) w
    else can F n P ops Q r R (a.put o.dst undef) w
  | (o, 1) :: r, R, a, w =>
    if Region.wanted o (yielded ops a.tmps) then o.wpIn F n P a w (fun a' w' => R w' ∧ can F n P ops Q r R a' w') Q
    else (∀ f, o.about P w a.eval = some f → F.fn f) ∧ can F n P ops Q r R (a.put o.dst undef) w
  | (o, _ + 2) :: r, R, a, w =>
    if Region.wanted o (yielded ops a.tmps) then o.wpIn F n P a w (fun a' w' => ∃ R' : World → Prop, R' w' ∧ can F n P ops Q r R' a' w') Q
    else (∀ f, o.about P w a.eval = some f → F.fn f) ∧ can F n P ops Q r R (a.put o.dst undef) w
def pick (l : List Oper) : List (Nat × Nat) → List (Oper × Nat)
  | [] => []
  | (k, e) :: r => match l[k]? with | some o => (o, e) :: pick l r | none => []
/-- The walk, behind a name that nothing opens. -/
structure Can (F : Fence) (n : Nat) (P : Program) (ops : Array Oper) (Q : Exit → Act → World → Prop) (l : List (Oper × Nat)) (R : World → Prop) (a : Act) (w : World) : Prop where
  out : can F n P ops Q l R a w
/-- Which operations have all that comes before them in the order that is handed in behind them for good. -/
def barOf (σ : List (Nat × Nat)) (j : Nat) : Bool := σ.any fun p => p.1 == j && decide (2 ≤ p.2)
theorem can_nil {R : World → Prop} {a : Act} {w : World} (h : Q .normal a w) : Can F n P ops Q [] R a w := ⟨h⟩
end
end Go.Proofs.Ytoleiiicbnmhpaa.RegIn
namespace Go.Proofs.Ytoleiiicbnmhpaa.RegF
open Go
section
variable {F : Fence} {n : Nat} {P : Program} {ops : Array Oper} {Q : Exit → Act → World → Prop} {md : Region.Mode}
/-- It calls nothing, or what is built in. -/
def noCall (o : Oper) : Bool := match o.op with
  | .call c => (match c.callee with | .builtin _ => true | _ => false)
  | _ => true
theorem about_none {o : Oper} (h : noCall o = true) (w : World) (ρ : Operand → Value) : o.about P w ρ = none := by
  unfold noCall at h
  unfold Oper.about
  cases ho : o.op <;> rw [ho] at h <;> first | rfl | skip
  rename_i c
  simp only at h ⊢
  cases hc : c.callee <;> rw [hc] at h <;> first | (cases h; done) | skip
  simp [resolve, hc, Target.leads]
/-- It defers nothing. -/
def noDefer (o : Oper) : Bool := match o.op with | .defer _ => false | _ => true
theorem sem_of {o : Oper} (h : noDefer o = true) (ρ : Operand → Value) : o.semAt F.round ρ = execOp ρ o := Oper.semAt_eq _ ρ o (by intro c e; simp [noDefer, e] at h)
theorem yif_op {R : World → Prop} {i : Nat} {o : Oper} {v : Value} {a : Act} (hro : ∀ o ∈ ops, noDefer o = true) (hi : ops[i]? = some o) (hy : YieldsIf P ops R o v a) (hc : noCall o = true)
    {K : Act → World → Prop} {w : World} (hR : R w) (h : K (a.put o.dst v) w) : wpOpIn F n P ops Q i K a w := by
  unfold Go.wpOpIn
  simp only [hi]
  have hab : ∀ f, o.about P w a.eval = some f → F.fn f := fun f hf => by rw [about_none hc] at hf; cases hf
  rcases hy with ⟨hw, hv⟩ | ⟨hw, rfl⟩
  · simp only [hw, if_true, Oper.wpIn, sem_of (F := F) (hro o (Array.mem_of_getElem? hi)), hv w hR, Oper.uponIn]; exact ⟨hab, h⟩
  · simp only [hw, Bool.false_eq_true, if_false]; exact ⟨hab, h⟩
theorem putIf {R : World → Prop} {j : Nat} {oi oj : Oper} {v : Value} (hro : ∀ o ∈ ops, noDefer o = true) (hj : ops[j]? = some oj) (hap : oi.apart ops oj = true)
    (hsi : ∀ cs b, oi.op ≠ .select cs b) (hsj : ∀ cs b, oj.op ≠ .select cs b)
    (hQ : ∀ c a w, Q (.panic c) (a.put oi.dst v) w → Q (.panic c) a w) {K : Act → World → Prop} {a : Act} {w : World}
    (hy : YieldsIf P ops R oi v a) (h : wpOpIn F n P ops Q j K (a.put oi.dst v) w) :
    wpOpIn F n P ops Q j (fun a' w' => YieldsIf P ops R oi v a' ∧ K (a'.put oi.dst v) w') a w := by
  obtain ⟨h1, h2, h3⟩ := Oper.apart_spec hap
  have keep : ∀ (a : Act), YieldsIf P ops R oi v a → ∀ u, YieldsIf P ops R oi v (a.put oj.dst u) := fun a hy u =>
    hy.of_same (execOp_put oi hsi a oj.dst u h3) (wanted_put oi a oj.dst u h3)
  have keepD : ∀ d, YieldsIf P ops R oi v { a with defers := d :: a.defers } := fun d => hy.of_same rfl rfl
  have hmj := Array.mem_of_getElem? hj
  unfold wpOpIn at *
  simp only [hj] at *
  rw [wanted_put oj a oi.dst v h1, about_put oj w a oi.dst v h1] at h
  split
  · rename_i hw
    simp only [hw, if_true] at h
    unfold Oper.wpIn at *
    rw [about_put oj w a oi.dst v h1] at h
    refine ⟨h.1, ?_⟩
    have h := h.2
    rw [sem_of (F := F) (hro oj hmj), execOp_put oj hsj a oi.dst v h1] at h
    rw [sem_of (F := F) (hro oj hmj)]
    generalize (execOp a.eval oj).run P w = r at *
    cases r with
    | ok x w' =>
      cases x <;> simp only [Oper.uponIn] at h ⊢
      case value u => exact ⟨keep a hy u, by rw [← Act.put_comm a v u h2]; exact h⟩
      case skip => exact ⟨keep a hy _, by rw [← Act.put_comm a v undef h2]; exact h⟩
      case defer d =>
        refine ⟨keep _ (keepD d) _, ?_⟩
        rw [← Act.put_comm _ v undef h2, ← Act.put_defers]
        exact h
      case enter f args =>
        refine ⟨h.1, CallsIn.mono h.2 fun e w'' he => ?_⟩
        cases e with
        | returned u => exact ⟨keep a hy u, by rw [← Act.put_comm a v u h2]; exact he⟩
        | panicked c => exact hQ _ _ _ he
        | outgrown => exact he
      case row row args => exact ⟨h.1, RowsIn.mono h.2 fun u w'' he => ⟨keep a hy u, by rw [← Act.put_comm a v u h2]; exact he⟩⟩
      case round l f tmps assign body =>
        refine ⟨h.1, RoundIn.mono h.2 fun e w'' he => ?_⟩
        cases e with
        | returned u => exact ⟨keep a hy u, by rw [← Act.put_comm a v u h2]; exact he⟩
        | panicked c => exact hQ _ _ _ he
        | outgrown => exact he
    | halt x w' =>
      cases x <;> simp only [Oper.uponIn] at h ⊢
      case panic u => exact hQ _ _ _ h
  · rename_i hw
    simp only [hw] at h
    exact ⟨h.1, keep a hy _, by rw [← Act.put_comm a v undef h2]; exact h.2⟩
/-- What number j waits for. -/
def onsOf (md : Region.Mode) (ops : Array Oper) (j : Nat) : List Nat := match ops[j]? with
  | some o => (o.after.toList.filter (Region.binds md)).map (·.on)
  | none => []
/-- What those wait for, and so on, each number looked at once, downwards. -/
def back (md : Region.Mode) (ops : Array Oper) : Nat → List Nat → List Nat
  | 0, l => l
  | i + 1, l => back md ops i (if l.contains i then onsOf md ops i ++ l else l)
/-- What a listed operation waits for is listed. -/
def Closed (md : Region.Mode) (ops : Array Oper) (listed : Array Bool) : Prop := ∀ j, listed.getD j false = true → ∀ e ∈ onsOf md ops j, listed.getD e false = true
theorem back_listed {listed : Array Bool} (h : Closed md ops listed) : ∀ (m : Nat) (l : List Nat), (∀ j ∈ l, listed.getD j false = true) → ∀ j ∈ back md ops m l, listed.getD j false = true
  | 0, _, hl, j, hj => hl j hj
  | m + 1, l, hl, j, hj => back_listed h m _ (fun k hk => by
      split at hk
      · rename_i hc
        rcases List.mem_append.1 hk with hk | hk
        · exact h m (hl m (by simpa using hc)) k hk
        · exact hl k hk
      · exact hl k hk) j hj
theorem ready_ons {listed : Array Bool} {j : Nat} (h : j ∈ Region.ready md ops listed) : ∀ e ∈ onsOf md ops j, listed.getD e false = true := by
  obtain ⟨_, o, ho, hall⟩ := mem_ready.1 h
  intro e he
  simp only [onsOf, ho, List.mem_map, List.mem_filter] at he
  obtain ⟨q, ⟨h1, h2⟩, rfl⟩ := he
  exact hall q (by simpa using h1) h2
theorem Closed.set {listed : Array Bool} {i : Nat} (h : Closed md ops listed) (hi : i ∈ Region.ready md ops listed) : Closed md ops (listed.setIfInBounds i true) := by
  intro j hj e he
  by_cases hij : i = j
  · subst hij; exact getD_set_true (ready_ons hi e he)
  · rw [getD_set_ne false hij] at hj
    exact getD_set_true (h j hj e he)
theorem Closed.none (n : Nat) : Closed md ops (Array.replicate n false) := by
  intro j hj
  have : (Array.replicate n false).getD j false = false := by
    simp only [Array.getD_eq_getD_getElem?, Array.getElem?_replicate]
    split <;> rfl
  rw [this] at hj
  cases hj
theorem bar_not {bar : Nat → Bool} {listed : Array Bool} {i j : Nat} (h : Closed md ops listed) (hj : j ∈ Region.ready md ops listed) (hi : i ∈ Region.ready md ops listed)
    (hb : bar j = true → i ∈ back md ops ops.size (onsOf md ops j)) : bar j = false := by
  rw [Bool.eq_false_iff]
  intro hbj
  obtain ⟨h0, o, ho, _⟩ := mem_ready.1 hi
  have h4 := back_listed h _ _ (ready_ons hj) i (hb hbj)
  rcases Nat.lt_or_ge i listed.size with h' | h'
  · simp [h'] at h0 h4; rw [h0] at h4; cases h4
  · simp [Array.getElem?_eq_none h'] at h4
/-- Behind one operation: the world lies in the class still (behind an operation that waits for all before it: in any class). -/
def Into (b : Bool) (R : World → Prop) (K : (World → Prop) → Act → World → Prop) (a : Act) (w : World) : Prop := ∃ R' : World → Prop, R' w ∧ (b = true ∨ R' = R) ∧ K R' a w
def anyR (bar : Nat → Bool) (F : Fence) (n : Nat) (P : Program) (md : Region.Mode) (ops : Array Oper) (Q : Exit → Act → World → Prop) : Nat → Array Bool → (World → Prop) → Act → World → Prop
  | 0, listed, _, a, w => Region.ready md ops listed = [] ∧ Q .normal a w
  | fuel + 1, listed, R, a, w => (Region.ready md ops listed = [] → Q .normal a w) ∧
      ∀ i ∈ Region.ready md ops listed, wpOpIn F n P ops Q i (Into (bar i) R (fun R' a' w' => anyR bar F n P md ops Q fuel (listed.setIfInBounds i true) R' a' w')) a w
theorem any_of {bar : Nat → Bool} : ∀ (fuel : Nat) (listed : Array Bool) (R : World → Prop) (a : Act) (w : World), anyR bar F n P md ops Q fuel listed R a w → wpAnyIn F n P md ops Q fuel listed a w
  | 0, _, _, _, _, h => h
  | fuel + 1, _, _, _, _, h => ⟨h.1, fun i hi => wpOpIn_mono (fun a' w' ⟨R', _, _, h3⟩ => any_of fuel _ R' a' w' h3) (h.2 i hi)⟩
theorem first {bar : Nat → Bool} {i : Nat} {oi : Oper} {v : Value} (hro : ∀ o ∈ ops, noDefer o = true) (hi : ops[i]? = some oi) (hc : noCall oi = true) (hsel : ∀ (j : Nat) (o : Oper) cs b, ops[j]? = some o → o.op ≠ .select cs b)
    (hQ : ∀ c a w, Q (.panic c) (a.put oi.dst v) w → Q (.panic c) a w) :
    ∀ (fuel : Nat) (listed : Array Bool) (R : World → Prop) (a : Act) (w : World),
      (∀ j oj, ops[j]? = some oj → j ≠ i → listed.getD j true = false → (∀ e ∈ oj.after, Region.binds md e = true → e.on ≠ i) → oi.apart ops oj = true) →
      (∀ j, listed.getD j true = false → j ≠ i → bar j = true → i ∈ back md ops ops.size (onsOf md ops j)) → Closed md ops listed → i ∈ Region.ready md ops listed → R w → YieldsIf P ops R oi v a →
      anyR bar F n P md ops Q fuel (listed.setIfInBounds i true) R (a.put oi.dst v) w → anyR bar F n P md ops Q (fuel + 1) listed R a w := by
  intro fuel
  induction fuel with
  | zero =>
    intro listed R a w _ _ _ hr hR hy H
    refine ⟨fun h => (by rw [h] at hr; cases hr), fun j hj => ?_⟩
    by_cases hji : j = i
    · subst hji; exact yif_op hro hi hy hc hR ⟨R, hR, .inr rfl, H⟩
    · have := ready_mono hj hji
      rw [H.1] at this
      cases this
  | succ fuel ih =>
    intro listed R a w hfree hbar hcl hr hR hy H
    refine ⟨fun h => (by rw [h] at hr; cases hr), fun j hj => ?_⟩
    by_cases hji : j = i
    · subst hji; exact yif_op hro hi hy hc hR ⟨R, hR, .inr rfl, H⟩
    · have h1 := H.2 j (ready_mono hj hji)
      obtain ⟨hjun, oj, hoj, hall⟩ := mem_ready.1 hj
      have hnot : ∀ e ∈ oj.after, Region.binds md e = true → e.on ≠ i := fun e he hb heq => by
        have h1 := hall e he hb
        have h0 := (mem_ready.1 hr).1
        rw [heq] at h1
        rcases Nat.lt_or_ge i listed.size with h' | h'
        · simp [h'] at h0 h1; rw [h0] at h1; cases h1
        · simp [Array.getElem?_eq_none h'] at h1
      have hb : bar j = false := bar_not hcl hj hr (hbar j hjun hji)
      have h2 := putIf hro hoj (hfree j oj hoj hji hjun hnot) (fun cs b => hsel i oi cs b hi) (fun cs b => hsel j oj cs b hoj) hQ hy h1
      have hfree' : ∀ k ok, ops[k]? = some ok → k ≠ i → (listed.setIfInBounds j true).getD k true = false →
          (∀ e ∈ ok.after, Region.binds md e = true → e.on ≠ i) → oi.apart ops ok = true := fun k ok hk hki hun hno => by
        refine hfree k ok hk hki ?_ hno
        by_cases hjk : j = k
        · subst hjk; exact hjun
        · rw [getD_set_ne true hjk] at hun; exact hun
      have hbar' : ∀ k, (listed.setIfInBounds j true).getD k true = false → k ≠ i → bar k = true → i ∈ back md ops ops.size (onsOf md ops k) := fun k hun hki hbk => by
        refine hbar k ?_ hki hbk
        by_cases hjk : j = k
        · subst hjk; exact hjun
        · rw [getD_set_ne true hjk] at hun; exact hun
      refine wpOpIn_mono (fun a' w' ⟨hy', R', hR', hor, hK⟩ => ?_) h2
      obtain rfl : R' = R := hor.resolve_left (by simp [hb])
      refine ⟨R', hR', .inr rfl, ih (listed.setIfInBounds j true) R' a' w' hfree' hbar' (hcl.set hj) (ready_mono hr (Ne.symm hji)) hR' hy' ?_⟩
      rw [Array.setIfInBounds_comm _ _ hji]
      exact hK
/-- The walk in the order that is handed in: 0: the operation only reads (in every world of R), and calls nothing; 1: it may turn the world, within R; else: it may turn the world anyhow, and waits for all that came before it. -/
def can (F : Fence) (n : Nat) (P : Program) (ops : Array Oper) (Q : Exit → Act → World → Prop) : List (Oper × Nat) → (World → Prop) → Act → World → Prop
  | [], _, a, w => Q .normal a w
  | (o, 0) :: r, R, a, w =>
    if Region.wanted o (yielded ops a.tmps) then ∃ v, (∀ x, R x → (execOp a.eval o).run P x = .ok (.value v) x) ∧ can F n P ops Q r R (a.put o.dst v) w
    else can F n P ops Q r R (a.put o.dst undef) w
  | (o, 1) :: r, R, a, w =>
    if Region.wanted o (yielded ops a.tmps) then o.wpIn F n P a w (fun a' w' => R w' ∧ can F n P ops Q r R a' w') Q
    else (∀ f, o.about P w a.eval = some f → F.fn f) ∧ can F n P ops Q r R (a.put o.dst undef) w
  | (o, _ + 2) :: r, R, a, w =>
    if Region.wanted o (yielded ops a.tmps) then o.wpIn F n P a w (fun a' w' => ∃ R' : World → Prop, R' w' ∧ can F n P ops Q r R' a' w') Q
    else (∀ f, o.about P w a.eval = some f → F.fn f) ∧ can F n P ops Q r R (a.put o.dst undef) w
def pick (l : List Oper) : List (Nat × Nat) → List (Oper × Nat)
  | [] => []
  | (k, e) :: r => match l[k]? with | some o => (o, e) :: pick l r | none => []
/-- The walk, behind a name that nothing opens. -/
structure Can (F : Fence) (n : Nat) (P : Program) (ops : Array Oper) (Q : Exit → Act → World → Prop) (l : List (Oper × Nat)) (R : World → Prop) (a : Act) (w : World) : Prop where
  out : can F n P ops Q l R a w
/-- Which operations have all that comes before them in the order that is handed in behind them for good. -/
def barOf (σ : List (Nat × Nat)) (j : Nat) : Bool := σ.any fun p => p.1 == j && decide (2 ≤ p.2)
theorem can_nil {R : World → Prop} {a : Act} {w : World} (h : Q .normal a w) : Can F n P ops Q [] R a w := ⟨h⟩
end
end Go.Proofs.Ytoleiiicbnmhpaa.RegF
namespace Go.Proofs.Ytoleiiicbnmhpaa.RegS
open Go RegR
section
variable {P : Program} {ops : Array Oper} {Q : Exit → Act → World → Prop}
structure Can (P : Program) (ops : Array Oper) (Q : Exit → Act → World → Prop) (l : List (Oper × Nat)) (R : World → Prop) (a : Act) (w : World) : Prop where
  out : wpCan P ops Q l R a w
/-- The last operation of all. -/
theorem last {R : World → Prop} {a : Act} {w : World} {o : Oper} {r : List (Oper × Nat)}
    (h : ∀ K : Act → World → Prop, (∀ a w, Q .normal a w → K a w) → if Region.wanted o (yielded ops a.tmps) then o.wp P a w K Q else K (a.put o.dst undef) w) :
    Can P ops Q ((o, 2) :: r) R a w := ⟨can_last h⟩
theorem nil {R : World → Prop} {a : Act} {w : World} (h : Q .normal a w) : Can P ops Q [] R a w := ⟨can_nil h⟩
end
end Go.Proofs.Ytoleiiicbnmhpaa.RegS
namespace Go.Proofs.Ytoleiiicbnmhpaa
open Go.RowKit Go.Shelf
attribute [local go_sem] Oper.semAt_some
theorem KeptW.refl (w : World) : KeptW w w := Below.refl _ _
end Go.Proofs.Ytoleiiicbnmhpaa
namespace Go.Proofs.Ytoleiiicbnmhpaa
open Go.RowKit
open Go.Shelf
/-- The library's contract of bits.Len64, at this program. -/
def len64_ren : Go.Shelf.Ren := ⟨fun | 129 => 51 | n => n, fun | 3 => 3 | 4 => 4 | 5 => 5 | 9 => 9 | 46 => 68 | 53 => 31 | n => n, fun n => n⟩
theorem len64_lays : Lays.n129 Try.prog len64_ren :=
  { mixed := by kernel_rfl, f129 := by kernel_rfl
    t3 := by kernel_rfl, a3 := fun _ => by kernel_rfl, z3 := fun _ => by kernel_rfl, v3 := fun _ => by kernel_rfl
    t4 := by kernel_rfl, a4 := fun _ => by kernel_rfl, z4 := fun _ => by kernel_rfl, v4 := fun _ => by kernel_rfl
    t5 := by kernel_rfl, a5 := fun _ => by kernel_rfl, z5 := fun _ => by kernel_rfl, v5 := fun _ => by kernel_rfl
    t9 := by kernel_rfl, a9 := fun _ => by kernel_rfl, z9 := fun _ => by kernel_rfl, v9 := fun _ => by kernel_rfl
    t46 := by kernel_rfl, a46 := fun _ => by kernel_rfl, z46 := fun _ => by kernel_rfl, v46 := fun _ => by kernel_rfl
    t53 := by kernel_rfl, a53 := fun _ => by kernel_rfl, z53 := fun _ => by kernel_rfl, v53 := fun _ => by kernel_rfl
  }
theorem len64_any (n : Nat) (hn : n < 18446744073709551616) (w : World) : Calls Try.prog 51 #[.int .u64 (n : Int)] w fun e w' => e = .returned (.int .i64 (Lib.bitLen n : Int)) ∧ w = w' := by
  have h := Any.bits_Len64 len64_lays (n : Int) w (by omega) (by omega)
  rw [Int.toNat_natCast] at h
  exact h.mono fun e w' hh => ⟨hh.1, hh.2.symm⟩
end Go.Proofs.Ytoleiiicbnmhpaa
namespace Go.Proofs.Ytoleiiicbnmhpaa.RegJ
open Go RegK
/-- A plan with its operations. -/
inductive PlanO where
  | nil : PlanO
  | bad : PlanO
  | step (o : Oper) (e : Nat) (r : PlanO) : PlanO
  | fork (o : Oper) (r : PlanO) (u : Oper) (s : PlanO) : PlanO
section
variable {F : Fence} {n : Nat} {P : Program} {ops : Array Oper} {Q : Exit → Act → World → Prop} {md : Region.Mode}
/-- The walk: 0 reads only, 1 turns the world within R; at a fork both ways. -/
def canJ (F : Fence) (n : Nat) (P : Program) (ops : Array Oper) (Q : Exit → Act → World → Prop) : PlanO → (World → Prop) → Act → World → Prop
  | .nil, _, a, w => Q .normal a w
  | .bad, _, _, _ => False
  | .step o 0 r, R, a, w =>
    if Region.wanted o (yielded ops a.tmps) then ∃ v, (∀ x, R x → (execOp a.eval o).run P x = .ok (.value v) x) ∧ canJ F n P ops Q r R (a.put o.dst v) w
    else canJ F n P ops Q r R (a.put o.dst undef) w
  | .step o (_ + 1) r, R, a, w =>
    if Region.wanted o (yielded ops a.tmps) then o.wpIn F n P a w (fun a' w' => ∃ R' : World → Prop, (∀ x, R' x → R x) ∧ R' w' ∧ canJ F n P ops Q r R' a' w') Q
    else (∀ f, o.about P w a.eval = some f → F.fn f) ∧ canJ F n P ops Q r R (a.put o.dst undef) w
  | .fork o r u s, R, a, w =>
    (if Region.wanted o (yielded ops a.tmps) then o.wpIn F n P a w (fun a' w' => ∃ R' : World → Prop, (∀ x, R' x → R x) ∧ R' w' ∧ canJ F n P ops Q r R' a' w') Q
      else (∀ f, o.about P w a.eval = some f → F.fn f) ∧ canJ F n P ops Q r R (a.put o.dst undef) w) ∧
    (if Region.wanted u (yielded ops a.tmps) then u.wpIn F n P a w (fun a' w' => ∃ R' : World → Prop, (∀ x, R' x → R x) ∧ R' w' ∧ canJ F n P ops Q s R' a' w') Q
      else (∀ f, u.about P w a.eval = some f → F.fn f) ∧ canJ F n P ops Q s R (a.put u.dst undef) w)
/-- The walk, behind a name that nothing opens. -/
structure Can (F : Fence) (n : Nat) (P : Program) (ops : Array Oper) (Q : Exit → Act → World → Prop) (l : PlanO) (R : World → Prop) (a : Act) (w : World) : Prop where
  out : canJ F n P ops Q l R a w
theorem nil {R : World → Prop} {a : Act} {w : World} (h : Q .normal a w) : Can F n P ops Q .nil R a w := ⟨h⟩
end
end Go.Proofs.Ytoleiiicbnmhpaa.RegJ
namespace Go.Proofs.Ytoleiiicbnmhpaa
open Go.RowKit
theorem st_eq {g : Nat} : ∀ (vs : List Value) (i : Nat) (y : World), y.setCells g i vs = rowSt y g i vs
  | [], _, _ => rfl
  | _ :: r, i, _ => st_eq r (i + 1) _
theorem range_row {y : World} {g : Nat} {cs : List Value} {t : TypeId} (h : y.heap[g]? = some (.cells cs.toArray t (0, 0))) : y.rangeAt g 0 cs := fun j v hv => by
  rw [Nat.zero_add]
  simp only [World.cell?, h]
  simpa using hv
theorem there_row {y : World} {g : Nat} {cs : List Value} {t : TypeId} (h : y.heap[g]? = some (.cells cs.toArray t (0, 0))) : y.there g 0 cs.length := fun j hj => ⟨by
  rw [Nat.zero_add]
  simp only [World.cell?, h]
  simp [hj], by
  rw [Nat.zero_add]
  unfold World.frozen?
  rw [h]
  rfl⟩
/-- A new variable, and what is stored into it. -/
theorem box_row (y : World) (cs0 cs : List Value) (t : TypeId) (hl : cs0.length = cs.length) : ((y.alloc (.cells cs0.toArray t)).setCells y.heap.size 0 cs).heap[y.heap.size]? = some (.cells cs.toArray t (0, 0)) := by
  rw [st_eq]
  exact rowSt_row cs [] cs0 _ (heap_alloc_new _ _) hl
theorem box_below (y : World) (cs0 cs : List Value) (t : TypeId) : Below y.heap.size y ((y.alloc (.cells cs0.toArray t)).setCells y.heap.size 0 cs) := by
  rw [st_eq]
  exact rowSt_below (Nat.le_refl _) cs 0 _ ((Below.refl _ _).alloc (Nat.le_refl _) _)
end Go.Proofs.Ytoleiiicbnmhpaa
namespace Go.Proofs.Ytoleiiicbnmhpaa
open Go.RowKit
/-- The set of one node. -/
def ofS (n : Nat) : Nat := if n < 7 then 1 <<< n else 0
def withS (x y : Nat) : Nat := (x ||| y) &&& 127
def hasS (x n : Nat) : Bool := x &&& ofS n != 0
def needS (x : Nat) : Nat := pop8 (x &&& 127) / 2 + 1
def majorS (x y : Nat) : Bool := decide (needS x ≤ pop8 (bothS x y &&& 127))
theorem of_lt (n : Nat) : ofS n < 128 := by
  unfold ofS
  split
  · next h => have : n = 0 ∨ n = 1 ∨ n = 2 ∨ n = 3 ∨ n = 4 ∨ n = 5 ∨ n = 6 := by omega
              rcases this with rfl | rfl | rfl | rfl | rfl | rfl | rfl <;> decide
  · omega
theorem pop8_lt (x : Nat) (hx : x < 256) : pop8 x ≤ 8 := by
  have h : ∀ i : Fin 256, pop8 i.val ≤ 8 := by decide +kernel
  exact h ⟨x, hx⟩
theorem of_bit {n : Nat} (h : n < 7) : bits .or .u8 0 ((2 : Int) ^ n % 256) = (ofS n : Int) := by
  have : n = 0 ∨ n = 1 ∨ n = 2 ∨ n = 3 ∨ n = 4 ∨ n = 5 ∨ n = 6 := by omega
  rcases this with rfl | rfl | rfl | rfl | rfl | rfl | rfl <;> decide +kernel
set_option maxRecDepth 100000 in
theorem of_any (n : Nat) (hn : n < 256) (g o c : Nat) (w : World) (h : w.cell? ⟨g, o, none⟩ = some (.int .u8 (n : Int))) :
    Calls Try.prog 12 #[.slice (some ⟨g, o, none⟩) 1 c] w fun e w' => e = .returned (.int .u8 (ofS n : Int)) ∧ w = w' := by
  go_enter Try.func12, Try.ntmps12
  go_upto_region 3 with fail
  go_loopw [3, 8] (fun s3 s8 wr => w = wr ∧ ((s8 = .int .i64 0 ∧ s3 = .int .u8 0) ∨ (s8 = .int .i64 1 ∧ s3 = .int .u8 (ofS n : Int)))) (fun _ s8 _ => 1 - (intOf s8).toNat)
  case atStart => exact ⟨rfl, .inl ⟨rfl, rfl⟩⟩
  case round =>
    obtain ⟨rfl, ⟨rfl, rfl⟩ | ⟨rfl, rfl⟩⟩ := hrel
    · by_cases h7 : n < 7
      · have h7' : (n : Int) < 7 := by omega
        have hsh := of_bit h7
        go_wp2_with fail
        exact ⟨⟨trivial, .inr ⟨rfl, rfl⟩⟩, by simp [intOf]⟩
      · have h7' : ¬ (n : Int) < 7 := by omega
        have ho : ofS n = 0 := if_neg h7
        go_wp2_with fail
        exact ⟨⟨trivial, .inr ⟨rfl, by rw [ho]; rfl⟩⟩, by simp [intOf]⟩
    · go_wp2_with fail
      go_ret
      exact ⟨rfl, rfl⟩
theorem with_any (x y : Nat) (hx : x < 256) (hy : y < 256) (w : World) : Calls Try.prog 8 #[.int .u8 (x : Int), .int .u8 (y : Int)] w fun e w' => e = .returned (.int .u8 (withS x y : Int)) ∧ w = w' := by
  have h1 : bits .or .u8 (x : Int) (y : Int) = ((x ||| y : Nat) : Int) := u8_or_nat x y hx hy
  have h2 := u8_127 (x := x ||| y) (Nat.or_lt_two_pow (n := 8) hx hy)
  go_enter Try.func8, Try.ntmps8
  go_wp2_with fail
  go_ret
  exact ⟨rfl, rfl⟩
theorem has_any (x n : Nat) (hx : x < 256) (hn : n < 256) (w : World) : Calls Try.prog 23 #[.int .u8 (x : Int), .int .u8 (n : Int)] w fun e w' => e = .returned (.bool (hasS x n)) ∧ Below w.heap.size w w' := by
  have h1 : bits .and .u8 (x : Int) (ofS n : Int) = ((x &&& ofS n : Nat) : Int) := u8_and_nat x (ofS n) hx (by have := of_lt n; omega)
  have hb := (Below.refl w.heap.size w).alloc (Nat.le_refl _) (.cells #[.int .u8 (n : Int)] 5)
  have Hb := Lib.hid hb
  have Ho := Lib.hid (of_any n hn w.heap.size 0 1 (w.alloc (.cells #[.int .u8 (n : Int)] 5)) (cell_of_row _ _ _ _ _ _ (heap_alloc_new _ _)))
  clear hb
  have h2 : (((x &&& ofS n : Nat) : Int) != 0) = hasS x n := by
    unfold hasS
    rw [Bool.eq_iff_iff, bne_iff_ne, bne_iff_ne]
    omega
  go_enter Try.func23, Try.ntmps23
  go_wp2_with ((with_reducible refine Ho.out.mono ?_); rintro e w' ⟨rfl, rfl⟩)
  go_ret
  exact ⟨rfl, Hb.out⟩
theorem need_any (x : Nat) (hx : x < 256) (w : World) : Calls Try.prog 26 #[.int .u8 (x : Int)] w fun e w' => e = .returned (.int .i64 (needS x : Int)) ∧ w = w' := by
  have hp := pop8_lt (x &&& 127) (and_byte hx)
  have Hl := Lib.hid (len8_any x hx w)
  unfold needS
  obtain ⟨p, hp2⟩ : ∃ p, pop8 (x &&& 127) = p := ⟨_, rfl⟩
  rw [hp2] at hp Hl ⊢
  have h1 : (p : Int).tdiv 2 = ((p / 2 : Nat) : Int) := by rw [Int.tdiv_eq_ediv_of_nonneg (by omega)]; omega
  have h2 : IntKind.i64.wrap ((p / 2 : Nat) : Int) = ((p / 2 : Nat) : Int) := by rw [IntKind.wrap_i64]; omega
  have h3 : IntKind.i64.wrap (((p / 2 : Nat) : Int) + 1) = ((p / 2 + 1 : Nat) : Int) := by rw [IntKind.wrap_i64]; omega
  go_enter Try.func26, Try.ntmps26
  go_wp2_with ((with_reducible refine Hl.out.mono ?_); rintro e w' ⟨rfl, rfl⟩)
  go_ret
  exact ⟨congrArg (fun z => Ending.returned (Value.int .i64 z)) (show (p : Int) / 2 + 1 = ((p / 2 + 1 : Nat) : Int) by omega), rfl⟩
theorem major_any (x y : Nat) (hx : x < 256) (hy : y < 256) (w : World) : Calls Try.prog 14 #[.int .u8 (x : Int), .int .u8 (y : Int)] w fun e w' => e = .returned (.bool (majorS x y)) ∧ w = w' := by
  have hb : bothS x y < 256 := and_byte (and_byte hx)
  have Hb := Lib.hid (both_any x y hx hy w)
  have Hl := Lib.hid (len8_any (bothS x y) hb w)
  have Hn := Lib.hid (need_any x hx w)
  unfold majorS
  generalize needS x = q at *
  generalize bothS x y = b at *
  generalize pop8 (b &&& 127) = p at *
  clear hb
  go_enter Try.func14, Try.ntmps14
  go_wp2_with (first
    | ((with_reducible refine Hb.out.mono ?_); rintro e w' ⟨rfl, rfl⟩)
    | ((with_reducible refine Hl.out.mono ?_); rintro e w' ⟨rfl, rfl⟩)
    | ((with_reducible refine Hn.out.mono ?_); rintro e w' ⟨rfl, rfl⟩))
  go_ret
  exact ⟨rfl, rfl⟩
end Go.Proofs.Ytoleiiicbnmhpaa
namespace Go.Proofs.Ytoleiiicbnmhpaa
open Go.RowKit
open Go.Maps (Keyed)
open Go.ChangeMaps Go.MapKept
/-- How a value reads: as itself. -/
def Rv (v : Value) : Option (DataW Value × List MemPlace) := some (.held v, [])
/-- Block b is a map of at most n entries that holds what M tells. -/
def MpAt (P : Program) (k : TypeId) (w : World) (b n : Nat) (M : Lit → Option Value) : Prop :=
  ∃ D : DataW Value, w.ownsMap P k Rv b n D ∧ ∀ l, WideAt.IsKeyLit l → Maps.has D l = (M l).isSome ∧ ∀ v, M l = some v → ∀ z, D.atKey l z = .held v
def mpPut (M : Lit → Option Value) (k : Lit) (v : Value) : Lit → Option Value := fun l => if l.sameKey k then some v else M l
def mpDel (M : Lit → Option Value) (k : Lit) : Lit → Option Value := fun l => if l.sameKey k then none else M l
section
variable {P : Program} {k : TypeId} {w w' : World} {b n : Nat} {M : Lit → Option Value}
theorem MpAt.lt (h : MpAt P k w b n M) : b < w.heap.size := by obtain ⟨_, h, _⟩ := h; exact h.lt
theorem MpAt.below (h : MpAt P k w b n M) (hb : Below w.heap.size w w') : MpAt P k w' b n M := by
  obtain ⟨D, ⟨es, clock, hg, r⟩, hM⟩ := h
  exact ⟨D, ⟨es, clock, (hb.block b (Array.getElem?_eq_some_iff.1 hg).1).trans hg, r⟩, hM⟩
theorem MpAt.stay (h : MpAt P k w b n M) (hb : w'.heap[b]? = w.heap[b]?) : MpAt P k w' b n M := by
  obtain ⟨D, ⟨es, clock, hg, r⟩, hM⟩ := h
  exact ⟨D, ⟨es, clock, hb.trans hg, r⟩, hM⟩
theorem MpAt.mono (h : MpAt P k w b n M) {m : Nat} (hm : n ≤ m) : MpAt P k w b m M := by obtain ⟨D, h, hM⟩ := h; exact ⟨D, h.mono hm, hM⟩
theorem mp_new (P : Program) (k : TypeId) (w : World) : MpAt P k (w.alloc (.map #[] 0)) w.heap.size 0 (fun _ => none) :=
  ⟨.map [], World.ownsMap_made w P k Rv, fun l _ => ⟨rfl, fun v h => by cases h⟩⟩
theorem mp_at (_h : MpAt P k w b n M) {l : Lit} (_hl : WideAt.IsKeyLit l) {v : Value} {ps : List MemPlace} {z : Value} {D : DataW Value} (hD : Maps.has D l = (M l).isSome ∧ ∀ v, M l = some v → ∀ z, D.atKey l z = .held v) (hv : Rv v = some (D.atKey l (.held z), ps)) : v = (M l).getD z := by
  have e : DataW.held v = D.atKey l (.held z) := congrArg Prod.fst (Option.some.inj hv)
  cases hm : M l with
  | none =>
    rw [hm] at hD
    rw [Maps.atKey_of_not_has hD.1] at e
    cases e
    rfl
  | some u =>
    rw [hD.2 u hm] at e
    cases e
    rfl
/-- 'm[k]'. -/
theorem MpAt.look {t e : TypeId} (h : MpAt P k w b n M) (K : Keyed P k) (ht : P.underlying t = some (.map k e)) {z : Value} (hz : (zeroValue e).run P w = .ok z w) {key : Value} {kl : Lit} (hkey : keyOf P k key = some kl) :
    (Instr.lookup t (.map (some b)) key false).run P w = .ok ((M kl).getD z) w := by
  have h2 := h
  obtain ⟨D, ho, hM⟩ := h
  obtain ⟨v, ps, hrun, hv⟩ := ho.lookup K ht hz (zd := .held z) (zp := []) rfl hkey
  rw [hrun, mp_at h2 (K.key hkey) (hM _ (K.key hkey)) hv]
/-- 'v, ok := m[k]'. -/
theorem MpAt.look_ok {t e : TypeId} (h : MpAt P k w b n M) (K : Keyed P k) (ht : P.underlying t = some (.map k e)) {z : Value} (hz : (zeroValue e).run P w = .ok z w) {key : Value} {kl : Lit} (hkey : keyOf P k key = some kl) :
    (Instr.lookup t (.map (some b)) key true).run P w = .ok (.tuple #[(M kl).getD z, .bool (M kl).isSome]) w := by
  have h2 := h
  obtain ⟨D, ho, hM⟩ := h
  obtain ⟨v, ps, hrun, hv⟩ := ho.look_ok K ht hz (zd := .held z) (zp := []) rfl hkey
  rw [hrun, mp_at h2 (K.key hkey) (hM _ (K.key hkey)) hv, (hM _ (K.key hkey)).1]
/-- 'm[k] = v'. -/
theorem MpAt.store {t e : TypeId} (h : MpAt P k w b n M) (K : Keyed P k) (ht : P.underlying t = some (.map k e)) (hn : n < maxLen) {key val : Value} {kl : Lit} (hkey : keyOf P k key = some kl) :
    ∃ w', (Instr.mapUpdate t (.map (some b)) key val).run P w = .ok () w' ∧ MpAt P k w' b (n + 1) (mpPut M kl val) ∧ w.mapTurned w' b := by
  obtain ⟨D, ho, hM⟩ := h
  obtain ⟨w', hrun, ho', ht'⟩ := ho.store K ht hn (d := .held val) (ps := []) hkey rfl
  refine ⟨w', hrun, ⟨_, ho', fun l hl => ?_⟩, ht'⟩
  unfold mpPut
  by_cases he : l = kl
  · subst he
    rw [if_pos (WideAt.sameKey_self hl)]
    exact ⟨Maps.has_put_same ho.isMap hl _, fun v hv z => by cases hv; exact Maps.atKey_put_same ho.isMap hl _ _⟩
  · rw [if_neg (fun q => he (WideAt.sameKey_eq q))]
    refine ⟨(Maps.has_put_other he _).trans (hM l hl).1, fun v hv z => (Maps.atKey_put_other he _ _).trans ((hM l hl).2 v hv z)⟩
/-- 'delete(m, k)'. -/
theorem MpAt.drop {t e : TypeId} (h : MpAt P k w b n M) (K : Keyed P k) (ht : P.underlying t = some (.map k e)) {key : Value} {kl : Lit} (hkey : keyOf P k key = some kl) (ty : TypeId) :
    ∃ w', (Builtin.delete_ #[t, k] ty #[.map (some b), key]).run P w = .ok (.tuple #[]) w' ∧ MpAt P k w' b n (mpDel M kl) ∧ w.mapTurned w' b := by
  obtain ⟨D, ho, hM⟩ := h
  obtain ⟨w', hrun, ho', ht'⟩ := ho.drop K ht hkey ty
  refine ⟨w', hrun, ⟨_, ho', fun l hl => ?_⟩, ht'⟩
  unfold mpDel
  by_cases he : l = kl
  · subst he
    rw [if_pos (WideAt.sameKey_self hl)]
    exact ⟨Maps.has_del_same, fun v hv => by cases hv⟩
  · rw [if_neg (fun q => he (WideAt.sameKey_eq q))]
    exact ⟨(Maps.has_del_other he).trans (hM l hl).1, fun v hv z => (Maps.atKey_del_other he _).trans ((hM l hl).2 v hv z)⟩
theorem turned_block {w w' : World} {b : Nat} (h : w.mapTurned w' b) {g : Nat} (hg : g ≠ b) : w'.heap[g]? = w.heap[g]? := by
  obtain ⟨es, clock, es', clock', hb, rfl⟩ := h
  exact heap_setBlock_other hb _ hg
end
section
variable {P : Program} {w : World} {ops : Array Oper} {rest : List Oper} {o : Oper} {a : Act} {Q : Exit → Act → World → Prop} {k : TypeId} {b n : Nat} {M : Lit → Option Value}
theorem wpList_look_mp (hg : o.guard = none) (m x : Operand) (t e : TypeId) (hop : o.op = Op.lookup t m x false) (K : Keyed P k) (ht : P.underlying t = some (.map k e)) {z : Value} (hz : ∀ w, (zeroValue e).run P w = .ok z w)
    (hm : a.eval m = .map (some b)) (h : MpAt P k w b n M) (key : Value) (kl : Lit) (hx : a.eval x = key) (hkey : keyOf P k key = some kl)
    (hK : wpList P ops Q rest (a.put o.dst ((M kl).getD z)) w) : wpList P ops Q (o :: rest) a w := by
  refine wpList_plain hg fun K' hK' => ?_
  unfold Oper.wp
  simp [execOp, hop, hm, hx, h.look K ht (hz w) hkey, Result.andThen]
  exact hK' _ _ hK
theorem wpList_lookok_mp (hg : o.guard = none) (m x : Operand) (t e : TypeId) (hop : o.op = Op.lookup t m x true) (K : Keyed P k) (ht : P.underlying t = some (.map k e)) {z : Value} (hz : ∀ w, (zeroValue e).run P w = .ok z w)
    (hm : a.eval m = .map (some b)) (h : MpAt P k w b n M) (key : Value) (kl : Lit) (hx : a.eval x = key) (hkey : keyOf P k key = some kl)
    (hK : wpList P ops Q rest (a.put o.dst (.tuple #[(M kl).getD z, .bool (M kl).isSome])) w) : wpList P ops Q (o :: rest) a w := by
  refine wpList_plain hg fun K' hK' => ?_
  unfold Oper.wp
  simp [execOp, hop, hm, hx, h.look_ok K ht (hz w) hkey, Result.andThen]
  exact hK' _ _ hK
theorem wpList_store_mp (hg : o.guard = none) (m x v : Operand) (t e : TypeId) (hop : o.op = Op.mapUpdate t m x v) (K : Keyed P k) (ht : P.underlying t = some (.map k e))
    (hm : a.eval m = .map (some b)) (h : MpAt P k w b n M) (hn : n < maxLen) (key val : Value) (kl : Lit) (hx : a.eval x = key) (hv : a.eval v = val) (hkey : keyOf P k key = some kl)
    (hK : ∀ w', MpAt P k w' b (n + 1) (mpPut M kl val) → w.mapTurned w' b → wpList P ops Q rest (a.put o.dst undef) w') : wpList P ops Q (o :: rest) a w := by
  refine wpList_plain hg fun K' hK' => ?_
  obtain ⟨w', hrun, r1, r2⟩ := h.store K ht hn (val := val) hkey
  unfold Oper.wp
  simp [execOp, hop, hm, hx, hv, hrun, Result.andThen]
  exact hK' _ _ (hK w' r1 r2)
theorem wpList_drop_mp (hg : o.guard = none) (m x : Operand) (t e : TypeId) (hop : o.op = Op.call { callee := Callee.builtin Builtin.delete, args := #[m, x], argTypes := #[t, k] }) (K : Keyed P k) (ht : P.underlying t = some (.map k e))
    (hm : a.eval m = .map (some b)) (h : MpAt P k w b n M) (key : Value) (kl : Lit) (hx : a.eval x = key) (hkey : keyOf P k key = some kl)
    (hK : ∀ w', MpAt P k w' b n (mpDel M kl) → w.mapTurned w' b → wpList P ops Q rest (a.put o.dst (.tuple #[])) w') : wpList P ops Q (o :: rest) a w := by
  refine wpList_plain hg fun K' hK' => ?_
  obtain ⟨w', hrun, r1, r2⟩ := h.drop K ht hkey o.type
  unfold Oper.wp
  simp [execOp, hop, resolve, invoke, builtin, hm, hx, hrun, Result.andThen]
  exact hK' _ _ (hK w' r1 r2)
end
end Go.Proofs.Ytoleiiicbnmhpaa
