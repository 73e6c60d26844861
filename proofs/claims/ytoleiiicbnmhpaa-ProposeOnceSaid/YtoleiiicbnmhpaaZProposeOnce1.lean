/- Sessions: Keep, of a fresh command. Condition: the client is one of four, the number is greater than its last one. -/
import Derived.Test.YtoleiiicbnmhpaaZProposeOnce0
import Derived.OrdersHeld
import Derived.OrdersIn
import Derived.RangeFuncKeeps
import Derived.RangeFuncBound
import Derived.RangeFuncLeaves
import Derived.RangeFuncNested
import Derived.RangeFuncCalls
import Derived.Shelf.Abstract
import Derived.Shelf.RegionOpen
import Derived.OwnWalkIn
import Derived.TacticsInMore
import Derived.LoopNIn
import Derived.LoopIn
import Derived.RangeFuncFrom
import Derived.Laws.EntriesVeiled
import Derived.OwnWalk
import Derived.Maps.AppendAt
import Derived.Laws.AppendOwnNone
import Derived.Deep.DeepCutAuto
import Derived.Test.YtoleiiicbnmhpaaRows
import Derived.WalkKit
import Derived.WalkSpells
import Derived.WalkLawsBesides
import Derived.Lib.Hide
import Derived.IntWalk
import Derived.RangeFuncWrites
import Derived.Laws.CopyOwn
import Derived.Laws.MakeOwn
import Derived.Lib.AppendStr
import Derived.Below
import Derived.Laws.IdiomStrings
import Derived.Lib.BufferRead
import Derived.Test.YtoleiiicbnmhpaaChecked
import Derived.ProofKit
import Derived.Shelf.Strconv.Itoa0
import Derived.StillTailTactics
import Derived.Deep.MidRow
import Derived.Sort.WalkA
import Derived.Sort.WalkB2
namespace Go.Proofs.Ytoleiiicbnmhpaa
open Go.RowKit
/-- The world behind the store of a row of values, cell by cell. -/
def rowSt (y : World) (g : Nat) : Nat → List Value → World
  | _, [] => y
  | i, v :: r => rowSt (y.setCell ⟨g, i, none⟩ v) g (i + 1) r
theorem rowSt_row {g : Nat} {t : TypeId} : ∀ (vs pre old : List Value) (y : World), y.heap[g]? = some (.cells (pre ++ old).toArray t (0, 0)) → old.length = vs.length → (rowSt y g pre.length vs).heap[g]? = some (.cells (pre ++ vs).toArray t (0, 0))
  | [], pre, old, y, h, hl => by
    have : old = [] := List.length_eq_zero_iff.1 hl
    subst this
    exact h
  | v :: r, pre, old, y, h, hl => by
    match old, hl with
    | o :: os, hl =>
      have h1 : (y.setCell ⟨g, pre.length, none⟩ v).heap[g]? = some (.cells ((pre ++ [v]) ++ os).toArray t (0, 0)) := by
        rw [heap_setCell_same _ _ _ _ _ _ h]
        simp
      have h2 := rowSt_row r (pre ++ [v]) os _ h1 (by simpa using hl)
      rw [List.length_append] at h2
      simp only [List.append_assoc, List.singleton_append] at h2
      exact h2
theorem rowSt_below {g n : Nat} {w0 : World} (hn : n ≤ g) : ∀ (vs : List Value) (i : Nat) (y : World), Below n w0 y → Below n w0 (rowSt y g i vs)
  | [], _, _, h => h
  | _ :: r, i, _, h => rowSt_below hn r (i + 1) _ (below_setV h hn)
theorem rowSt_other {g q : Nat} (hq : q ≠ g) : ∀ (vs : List Value) (i : Nat) (y : World), (rowSt y g i vs).heap[q]? = y.heap[q]?
  | [], _, _ => rfl
  | _ :: r, i, _ => (rowSt_other hq r (i + 1) _).trans (Below.heap_setCell _ _ _ _ (by exact hq))
end Go.Proofs.Ytoleiiicbnmhpaa
namespace Go.Proofs.Ytoleiiicbnmhpaa.RegIn
open Go
section
variable {F : Fence} {n : Nat} {P : Program} {ops : Array Oper} {Q : Exit → Act → World → Prop} {md : Region.Mode}
/-- It calls nothing, or what is built in. -/
def noCall (o : Oper) : Bool := match o.op with
  | .call c => (match c.callee with | .builtin _ => true | _ => false)
  | _ => true
theorem about_none {o : Oper} (h : noCall o = true) (w : World) (ρ : Operand → Value) : o.about P w ρ = none := by
  unfold noCall at h
  unfold Oper.about
  cases ho : o.op <;> rw [ho] at h <;> first | rfl | skip
  rename_i c
  simp only at h ⊢
  cases hc : c.callee <;> rw [hc] at h <;> first | (cases h; done) | skip
  simp [resolve, hc, Target.leads]
theorem yif_op {R : World → Prop} {i : Nat} {o : Oper} {v : Value} {a : Act} (hro : F.round = none) (hi : ops[i]? = some o) (hy : YieldsIf P ops R o v a) (hc : noCall o = true)
    {K : Act → World → Prop} {w : World} (hR : R w) (h : K (a.put o.dst v) w) : wpOpIn F n P ops Q i K a w := by
  unfold Go.wpOpIn
  simp only [hi]
  have hab : ∀ f, o.about P w a.eval = some f → F.fn f := fun f hf => by rw [about_none hc] at hf; cases hf
  rcases hy with ⟨hw, hv⟩ | ⟨hw, rfl⟩
  · simp only [hw, if_true, Oper.wpIn, hro, Oper.semAt_none, hv w hR, Oper.uponIn]; exact ⟨hab, h⟩
  · simp only [hw, Bool.false_eq_true, if_false]; exact ⟨hab, h⟩
theorem putIf {R : World → Prop} {j : Nat} {oi oj : Oper} {v : Value} (hro : F.round = none) (hj : ops[j]? = some oj) (hap : oi.apart ops oj = true)
    (hsi : ∀ cs b, oi.op ≠ .select cs b) (hsj : ∀ cs b, oj.op ≠ .select cs b)
    (hQ : ∀ c a w, Q (.panic c) (a.put oi.dst v) w → Q (.panic c) a w) {K : Act → World → Prop} {a : Act} {w : World}
    (hy : YieldsIf P ops R oi v a) (h : wpOpIn F n P ops Q j K (a.put oi.dst v) w) :
    wpOpIn F n P ops Q j (fun a' w' => YieldsIf P ops R oi v a' ∧ K (a'.put oi.dst v) w') a w := by
  obtain ⟨h1, h2, h3⟩ := Oper.apart_spec hap
  have keep : ∀ (a : Act), YieldsIf P ops R oi v a → ∀ u, YieldsIf P ops R oi v (a.put oj.dst u) := fun a hy u =>
    hy.of_same (execOp_put oi hsi a oj.dst u h3) (wanted_put oi a oj.dst u h3)
  have keepD : ∀ d, YieldsIf P ops R oi v { a with defers := d :: a.defers } := fun d => hy.of_same rfl rfl
  unfold wpOpIn at *
  simp only [hj] at *
  rw [wanted_put oj a oi.dst v h1, about_put oj w a oi.dst v h1] at h
  split
  · rename_i hw
    simp only [hw, if_true] at h
    unfold Oper.wpIn at *
    rw [about_put oj w a oi.dst v h1] at h
    refine ⟨h.1, ?_⟩
    have h := h.2
    rw [hro, Oper.semAt_none, execOp_put oj hsj a oi.dst v h1] at h
    rw [hro, Oper.semAt_none]
    generalize (execOp a.eval oj).run P w = r at *
    cases r with
    | ok x w' =>
      cases x <;> simp only [Oper.uponIn] at h ⊢
      case value u => exact ⟨keep a hy u, by rw [← Act.put_comm a v u h2]; exact h⟩
      case skip => exact ⟨keep a hy _, by rw [← Act.put_comm a v undef h2]; exact h⟩
      case defer d =>
        refine ⟨keep _ (keepD d) _, ?_⟩
        rw [← Act.put_comm _ v undef h2, ← Act.put_defers]
        exact h
      case enter f args =>
        refine ⟨h.1, CallsIn.mono h.2 fun e w'' he => ?_⟩
        cases e with
        | returned u => exact ⟨keep a hy u, by rw [← Act.put_comm a v u h2]; exact he⟩
        | panicked c => exact hQ _ _ _ he
        | outgrown => exact he
      case row row args => exact ⟨h.1, RowsIn.mono h.2 fun u w'' he => ⟨keep a hy u, by rw [← Act.put_comm a v u h2]; exact he⟩⟩
      case round l f tmps assign body =>
        refine ⟨h.1, RoundIn.mono h.2 fun e w'' he => ?_⟩
        cases e with
        | returned u => exact ⟨keep a hy u, by rw [← Act.put_comm a v u h2]; exact he⟩
        | panicked c => exact hQ _ _ _ he
        | outgrown => exact he
    | halt x w' =>
      cases x <;> simp only [Oper.uponIn] at h ⊢
      case panic u => exact hQ _ _ _ h
  · rename_i hw
    simp only [hw] at h
    exact ⟨h.1, keep a hy _, by rw [← Act.put_comm a v undef h2]; exact h.2⟩
/-- What number j waits for. -/
def onsOf (md : Region.Mode) (ops : Array Oper) (j : Nat) : List Nat := match ops[j]? with
  | some o => (o.after.toList.filter (Region.binds md)).map (·.on)
  | none => []
/-- What those wait for, and so on, each number looked at once, downwards. -/
def back (md : Region.Mode) (ops : Array Oper) : Nat → List Nat → List Nat
  | 0, l => l
  | i + 1, l => back md ops i (if l.contains i then onsOf md ops i ++ l else l)
/-- What a listed operation waits for is listed. -/
def Closed (md : Region.Mode) (ops : Array Oper) (listed : Array Bool) : Prop := ∀ j, listed.getD j false = true → ∀ e ∈ onsOf md ops j, listed.getD e false = true
theorem back_listed {listed : Array Bool} (h : Closed md ops listed) : ∀ (m : Nat) (l : List Nat), (∀ j ∈ l, listed.getD j false = true) → ∀ j ∈ back md ops m l, listed.getD j false = true
  | 0, _, hl, j, hj => hl j hj
  | m + 1, l, hl, j, hj => back_listed h m _ (fun k hk => by
      split at hk
      · rename_i hc
        rcases List.mem_append.1 hk with hk | hk
        · exact h m (hl m (by simpa using hc)) k hk
        · exact hl k hk
      · exact hl k hk) j hj
theorem ready_ons {listed : Array Bool} {j : Nat} (h : j ∈ Region.ready md ops listed) : ∀ e ∈ onsOf md ops j, listed.getD e false = true := by
  obtain ⟨_, o, ho, hall⟩ := mem_ready.1 h
  intro e he
  simp only [onsOf, ho, List.mem_map, List.mem_filter] at he
  obtain ⟨q, ⟨h1, h2⟩, rfl⟩ := he
  exact hall q (by simpa using h1) h2
theorem Closed.set {listed : Array Bool} {i : Nat} (h : Closed md ops listed) (hi : i ∈ Region.ready md ops listed) : Closed md ops (listed.setIfInBounds i true) := by
  intro j hj e he
  by_cases hij : i = j
  · subst hij; exact getD_set_true (ready_ons hi e he)
  · rw [getD_set_ne false hij] at hj
    exact getD_set_true (h j hj e he)
theorem Closed.none (n : Nat) : Closed md ops (Array.replicate n false) := by
  intro j hj
  have : (Array.replicate n false).getD j false = false := by
    simp only [Array.getD_eq_getD_getElem?, Array.getElem?_replicate]
    split <;> rfl
  rw [this] at hj
  cases hj
theorem bar_not {bar : Nat → Bool} {listed : Array Bool} {i j : Nat} (h : Closed md ops listed) (hj : j ∈ Region.ready md ops listed) (hi : i ∈ Region.ready md ops listed)
    (hb : bar j = true → i ∈ back md ops ops.size (onsOf md ops j)) : bar j = false := by
  rw [Bool.eq_false_iff]
  intro hbj
  obtain ⟨h0, o, ho, _⟩ := mem_ready.1 hi
  have h4 := back_listed h _ _ (ready_ons hj) i (hb hbj)
  rcases Nat.lt_or_ge i listed.size with h' | h'
  · simp [h'] at h0 h4; rw [h0] at h4; cases h4
  · simp [Array.getElem?_eq_none h'] at h4
/-- Behind one operation: the world lies in the class still (behind an operation that waits for all before it: in any class). -/
def Into (b : Bool) (R : World → Prop) (K : (World → Prop) → Act → World → Prop) (a : Act) (w : World) : Prop := ∃ R' : World → Prop, R' w ∧ (b = true ∨ R' = R) ∧ K R' a w
def anyR (bar : Nat → Bool) (F : Fence) (n : Nat) (P : Program) (md : Region.Mode) (ops : Array Oper) (Q : Exit → Act → World → Prop) : Nat → Array Bool → (World → Prop) → Act → World → Prop
  | 0, listed, _, a, w => Region.ready md ops listed = [] ∧ Q .normal a w
  | fuel + 1, listed, R, a, w => (Region.ready md ops listed = [] → Q .normal a w) ∧
      ∀ i ∈ Region.ready md ops listed, wpOpIn F n P ops Q i (Into (bar i) R (fun R' a' w' => anyR bar F n P md ops Q fuel (listed.setIfInBounds i true) R' a' w')) a w
theorem any_of {bar : Nat → Bool} : ∀ (fuel : Nat) (listed : Array Bool) (R : World → Prop) (a : Act) (w : World), anyR bar F n P md ops Q fuel listed R a w → wpAnyIn F n P md ops Q fuel listed a w
  | 0, _, _, _, _, h => h
  | fuel + 1, _, _, _, _, h => ⟨h.1, fun i hi => wpOpIn_mono (fun a' w' ⟨R', _, _, h3⟩ => any_of fuel _ R' a' w' h3) (h.2 i hi)⟩
theorem first {bar : Nat → Bool} {i : Nat} {oi : Oper} {v : Value} (hro : F.round = none) (hi : ops[i]? = some oi) (hc : noCall oi = true) (hsel : ∀ (j : Nat) (o : Oper) cs b, ops[j]? = some o → o.op ≠ .select cs b)
    (hQ : ∀ c a w, Q (.panic c) (a.put oi.dst v) w → Q (.panic c) a w) :
    ∀ (fuel : Nat) (listed : Array Bool) (R : World → Prop) (a : Act) (w : World),
      (∀ j oj, ops[j]? = some oj → j ≠ i → listed.getD j true = false → (∀ e ∈ oj.after, Region.binds md e = true → e.on ≠ i) → oi.apart ops oj = true) →
      (∀ j, listed.getD j true = false → j ≠ i → bar j = true → i ∈ back md ops ops.size (onsOf md ops j)) → Closed md ops listed → i ∈ Region.ready md ops listed → R w → YieldsIf P ops R oi v a →
      anyR bar F n P md ops Q fuel (listed.setIfInBounds i true) R (a.put oi.dst v) w → anyR bar F n P md ops Q (fuel + 1) listed R a w := by
  intro fuel
  induction fuel with
  | zero =>
    intro listed R a w _ _ _ hr hR hy H
    refine ⟨fun h => (by rw [h] at hr; cases hr), fun j hj => ?_⟩
    by_cases hji : j = i
    · subst hji; exact yif_op hro hi hy hc hR ⟨R, hR, .inr rfl, H⟩
    · have := ready_mono hj hji
      rw [H.1] at this
      cases this
  | succ fuel ih =>
    intro listed R a w hfree hbar hcl hr hR hy H
    refine ⟨fun h => (by rw [h] at hr; cases hr), fun j hj => ?_⟩
    by_cases hji : j = i
    · subst hji; exact yif_op hro hi hy hc hR ⟨R, hR, .inr rfl, H⟩
    · have h1 := H.2 j (ready_mono hj hji)
      obtain ⟨hjun, oj, hoj, hall⟩ := mem_ready.1 hj
      have hnot : ∀ e ∈ oj.after, Region.binds md e = true → e.on ≠ i := fun e he hb heq => by
        have h1 := hall e he hb
        have h0 := (mem_ready.1 hr).1
        rw [heq] at h1
        rcases Nat.lt_or_ge i listed.size with h' | h'
        · simp [h'] at h0 h1; rw [h0] at h1; cases h1
        · simp [Array.getElem?_eq_none h'] at h1
      have hb : bar j = false := bar_not hcl hj hr (hbar j hjun hji)
      have h2 := putIf hro hoj (hfree j oj hoj hji hjun hnot) (fun cs b => hsel i oi cs b hi) (fun cs b => hsel j oj cs b hoj) hQ hy h1
      have hfree' : ∀ k ok, ops[k]? = some ok → k ≠ i → (listed.setIfInBounds j true).getD k true = false →
          (∀ e ∈ ok.after, Region.binds md e = true → e.on ≠ i) → oi.apart ops ok = true := fun k ok hk hki hun hno => by
        refine hfree k ok hk hki ?_ hno
        by_cases hjk : j = k
        · subst hjk; exact hjun
        · rw [getD_set_ne true hjk] at hun; exact hun
      have hbar' : ∀ k, (listed.setIfInBounds j true).getD k true = false → k ≠ i → bar k = true → i ∈ back md ops ops.size (onsOf md ops k) := fun k hun hki hbk => by
        refine hbar k ?_ hki hbk
        by_cases hjk : j = k
        · subst hjk; exact hjun
        · rw [getD_set_ne true hjk] at hun; exact hun
      refine wpOpIn_mono (fun a' w' ⟨hy', R', hR', hor, hK⟩ => ?_) h2
      obtain rfl : R' = R := hor.resolve_left (by simp [hb])
      refine ⟨R', hR', .inr rfl, ih (listed.setIfInBounds j true) R' a' w' hfree' hbar' (hcl.set hj) (ready_mono hr (Ne.symm hji)) hR' hy' ?_⟩
      rw [Array.setIfInBounds_comm _ _ hji]
      exact hK
/-- The walk in the order that is handed in: 0: the operation only reads (in every world of R), and calls nothing; 1: it may turn the world, within R; else: it may turn the world anyhow, and waits for all that came before it. -/
def can (F : Fence) (n : Nat) (P : Program) (ops : Array Oper) (Q : Exit → Act → World → Prop) : List (Oper × Nat) → (World → Prop) → Act → World → Prop
  | [], _, a, w => Q .normal a w
  | (o, 0) :: r, R, a, w =>
    if Region.wanted o (yielded ops a.tmps) then ∃ v, (∀ x, R x → (execOp a.eval o).run P x = .ok (.value v) x) ∧ can F n P ops Q r R (a.put o.dst v) w
    else can F n P ops Q r R (a.put o.dst undef) w
  | (o, 1) :: r, R, a, w =>
    if Region.wanted o (yielded ops a.tmps) then o.wpIn F n P a w (fun a' w' => R w' ∧ can F n P ops Q r R a' w') Q
    else (∀ f, o.about P w a.eval = some f → F.fn f) ∧ can F n P ops Q r R (a.put o.dst undef) w
  | (o, _ + 2) :: r, R, a, w =>
    if Region.wanted o (yielded ops a.tmps) then o.wpIn F n P a w (fun a' w' => ∃ R' : World → Prop, R' w' ∧ can F n P ops Q r R' a' w') Q
    else (∀ f, o.about P w a.eval = some f → F.fn f) ∧ can F n P ops Q r R (a.put o.dst undef) w
def pick (l : List Oper) : List (Nat × Nat) → List (Oper × Nat)
  | [] => []
  | (k, e) :: r => match l[k]? with | some o => (o, e) :: pick l r | none => []
/-- The walk, behind a name that nothing opens. -/
structure Can (F : Fence) (n : Nat) (P : Program) (ops : Array Oper) (Q : Exit → Act → World → Prop) (l : List (Oper × Nat)) (R : World → Prop) (a : Act) (w : World) : Prop where
  out : can F n P ops Q l R a w
/-- Which operations have all that comes before them in the order that is handed in behind them for good. -/
def barOf (σ : List (Nat × Nat)) (j : Nat) : Bool := σ.any fun p => p.1 == j && decide (2 ≤ p.2)
theorem can_nil {R : World → Prop} {a : Act} {w : World} (h : Q .normal a w) : Can F n P ops Q [] R a w := ⟨h⟩
end
end Go.Proofs.Ytoleiiicbnmhpaa.RegIn
namespace Go.Proofs.Ytoleiiicbnmhpaa.RegF
open Go
section
variable {F : Fence} {n : Nat} {P : Program} {ops : Array Oper} {Q : Exit → Act → World → Prop} {md : Region.Mode}
/-- It calls nothing, or what is built in. -/
def noCall (o : Oper) : Bool := match o.op with
  | .call c => (match c.callee with | .builtin _ => true | _ => false)
  | _ => true
theorem about_none {o : Oper} (h : noCall o = true) (w : World) (ρ : Operand → Value) : o.about P w ρ = none := by
  unfold noCall at h
  unfold Oper.about
  cases ho : o.op <;> rw [ho] at h <;> first | rfl | skip
  rename_i c
  simp only at h ⊢
  cases hc : c.callee <;> rw [hc] at h <;> first | (cases h; done) | skip
  simp [resolve, hc, Target.leads]
/-- It defers nothing. -/
def noDefer (o : Oper) : Bool := match o.op with | .defer _ => false | _ => true
theorem sem_of {o : Oper} (h : noDefer o = true) (ρ : Operand → Value) : o.semAt F.round ρ = execOp ρ o := Oper.semAt_eq _ ρ o (by intro c e; simp [noDefer, e] at h)
theorem yif_op {R : World → Prop} {i : Nat} {o : Oper} {v : Value} {a : Act} (hro : ∀ o ∈ ops, noDefer o = true) (hi : ops[i]? = some o) (hy : YieldsIf P ops R o v a) (hc : noCall o = true)
    {K : Act → World → Prop} {w : World} (hR : R w) (h : K (a.put o.dst v) w) : wpOpIn F n P ops Q i K a w := by
  unfold Go.wpOpIn
  simp only [hi]
  have hab : ∀ f, o.about P w a.eval = some f → F.fn f := fun f hf => by rw [about_none hc] at hf; cases hf
  rcases hy with ⟨hw, hv⟩ | ⟨hw, rfl⟩
  · simp only [hw, if_true, Oper.wpIn, sem_of (F := F) (hro o (Array.mem_of_getElem? hi)), hv w hR, Oper.uponIn]; exact ⟨hab, h⟩
  · simp only [hw, Bool.false_eq_true, if_false]; exact ⟨hab, h⟩
theorem putIf {R : World → Prop} {j : Nat} {oi oj : Oper} {v : Value} (hro : ∀ o ∈ ops, noDefer o = true) (hj : ops[j]? = some oj) (hap : oi.apart ops oj = true)
    (hsi : ∀ cs b, oi.op ≠ .select cs b) (hsj : ∀ cs b, oj.op ≠ .select cs b)
    (hQ : ∀ c a w, Q (.panic c) (a.put oi.dst v) w → Q (.panic c) a w) {K : Act → World → Prop} {a : Act} {w : World}
    (hy : YieldsIf P ops R oi v a) (h : wpOpIn F n P ops Q j K (a.put oi.dst v) w) :
    wpOpIn F n P ops Q j (fun a' w' => YieldsIf P ops R oi v a' ∧ K (a'.put oi.dst v) w') a w := by
  obtain ⟨h1, h2, h3⟩ := Oper.apart_spec hap
  have keep : ∀ (a : Act), YieldsIf P ops R oi v a → ∀ u, YieldsIf P ops R oi v (a.put oj.dst u) := fun a hy u =>
    hy.of_same (execOp_put oi hsi a oj.dst u h3) (wanted_put oi a oj.dst u h3)
  have keepD : ∀ d, YieldsIf P ops R oi v { a with defers := d :: a.defers } := fun d => hy.of_same rfl rfl
  have hmj := Array.mem_of_getElem? hj
  unfold wpOpIn at *
  simp only [hj] at *
  rw [wanted_put oj a oi.dst v h1, about_put oj w a oi.dst v h1] at h
  split
  · rename_i hw
    simp only [hw, if_true] at h
    unfold Oper.wpIn at *
    rw [about_put oj w a oi.dst v h1] at h
    refine ⟨h.1, ?_⟩
    have h := h.2
    rw [sem_of (F := F) (hro oj hmj), execOp_put oj hsj a oi.dst v h1] at h
    rw [sem_of (F := F) (hro oj hmj)]
    generalize (execOp a.eval oj).run P w = r at *
    cases r with
    | ok x w' =>
      cases x <;> simp only [Oper.uponIn] at h ⊢
      case value u => exact ⟨keep a hy u, by rw [← Act.put_comm a v u h2]; exact h⟩
      case skip => exact ⟨keep a hy _, by rw [← Act.put_comm a v undef h2]; exact h⟩
      case defer d =>
        refine ⟨keep _ (keepD d) _, ?_⟩
        rw [← Act.put_comm _ v undef h2, ← Act.put_defers]
        exact h
      case enter f args =>
        refine ⟨h.1, CallsIn.mono h.2 fun e w'' he => ?_⟩
        cases e with
        | returned u => exact ⟨keep a hy u, by rw [← Act.put_comm a v u h2]; exact he⟩
        | panicked c => exact hQ _ _ _ he
        | outgrown => exact he
      case row row args => exact ⟨h.1, RowsIn.mono h.2 fun u w'' he => ⟨keep a hy u, by rw [← Act.put_comm a v u h2]; exact he⟩⟩
      case round l f tmps assign body =>
        refine ⟨h.1, RoundIn.mono h.2 fun e w'' he => ?_⟩
        cases e with
        | returned u => exact ⟨keep a hy u, by rw [← Act.put_comm a v u h2]; exact he⟩
        | panicked c => exact hQ _ _ _ he
        | outgrown => exact he
    | halt x w' =>
      cases x <;> simp only [Oper.uponIn] at h ⊢
      case panic u => exact hQ _ _ _ h
  · rename_i hw
    simp only [hw] at h
    exact ⟨h.1, keep a hy _, by rw [← Act.put_comm a v undef h2]; exact h.2⟩
/-- What number j waits for. -/
def onsOf (md : Region.Mode) (ops : Array Oper) (j : Nat) : List Nat := match ops[j]? with
  | some o => (o.after.toList.filter (Region.binds md)).map (·.on)
  | none => []
/-- What those wait for, and so on, each number looked at once, downwards. -/
def back (md : Region.Mode) (ops : Array Oper) : Nat → List Nat → List Nat
  | 0, l => l
  | i + 1, l => back md ops i (if l.contains i then onsOf md ops i ++ l else l)
/-- What a listed operation waits for is listed. -/
def Closed (md : Region.Mode) (ops : Array Oper) (listed : Array Bool) : Prop := ∀ j, listed.getD j false = true → ∀ e ∈ onsOf md ops j, listed.getD e false = true
theorem back_listed {listed : Array Bool} (h : Closed md ops listed) : ∀ (m : Nat) (l : List Nat), (∀ j ∈ l, listed.getD j false = true) → ∀ j ∈ back md ops m l, listed.getD j false = true
  | 0, _, hl, j, hj => hl j hj
  | m + 1, l, hl, j, hj => back_listed h m _ (fun k hk => by
      split at hk
      · rename_i hc
        rcases List.mem_append.1 hk with hk | hk
        · exact h m (hl m (by simpa using hc)) k hk
        · exact hl k hk
      · exact hl k hk) j hj
theorem ready_ons {listed : Array Bool} {j : Nat} (h : j ∈ Region.ready md ops listed) : ∀ e ∈ onsOf md ops j, listed.getD e false = true := by
  obtain ⟨_, o, ho, hall⟩ := mem_ready.1 h
  intro e he
  simp only [onsOf, ho, List.mem_map, List.mem_filter] at he
  obtain ⟨q, ⟨h1, h2⟩, rfl⟩ := he
  exact hall q (by simpa using h1) h2
theorem Closed.set {listed : Array Bool} {i : Nat} (h : Closed md ops listed) (hi : i ∈ Region.ready md ops listed) : Closed md ops (listed.setIfInBounds i true) := by
  intro j hj e he
  by_cases hij : i = j
  · subst hij; exact getD_set_true (ready_ons hi e he)
  · rw [getD_set_ne false hij] at hj
    exact getD_set_true (h j hj e he)
theorem Closed.none (n : Nat) : Closed md ops (Array.replicate n false) := by
  intro j hj
  have : (Array.replicate n false).getD j false = false := by
    simp only [Array.getD_eq_getD_getElem?, Array.getElem?_replicate]
    split <;> rfl
  rw [this] at hj
  cases hj
theorem bar_not {bar : Nat → Bool} {listed : Array Bool} {i j : Nat} (h : Closed md ops listed) (hj : j ∈ Region.ready md ops listed) (hi : i ∈ Region.ready md ops listed)
    (hb : bar j = true → i ∈ back md ops ops.size (onsOf md ops j)) : bar j = false := by
  rw [Bool.eq_false_iff]
  intro hbj
  obtain ⟨h0, o, ho, _⟩ := mem_ready.1 hi
  have h4 := back_listed h _ _ (ready_ons hj) i (hb hbj)
  rcases Nat.lt_or_ge i listed.size with h' | h'
  · simp [h'] at h0 h4; rw [h0] at h4; cases h4
  · simp [Array.getElem?_eq_none h'] at h4
/-- Behind one operation: the world lies in the class still (behind an operation that waits for all before it: in any class). -/
def Into (b : Bool) (R : World → Prop) (K : (World → Prop) → Act → World → Prop) (a : Act) (w : World) : Prop := ∃ R' : World → Prop, R' w ∧ (b = true ∨ R' = R) ∧ K R' a w
def anyR (bar : Nat → Bool) (F : Fence) (n : Nat) (P : Program) (md : Region.Mode) (ops : Array Oper) (Q : Exit → Act → World → Prop) : Nat → Array Bool → (World → Prop) → Act → World → Prop
  | 0, listed, _, a, w => Region.ready md ops listed = [] ∧ Q .normal a w
  | fuel + 1, listed, R, a, w => (Region.ready md ops listed = [] → Q .normal a w) ∧
      ∀ i ∈ Region.ready md ops listed, wpOpIn F n P ops Q i (Into (bar i) R (fun R' a' w' => anyR bar F n P md ops Q fuel (listed.setIfInBounds i true) R' a' w')) a w
theorem any_of {bar : Nat → Bool} : ∀ (fuel : Nat) (listed : Array Bool) (R : World → Prop) (a : Act) (w : World), anyR bar F n P md ops Q fuel listed R a w → wpAnyIn F n P md ops Q fuel listed a w
  | 0, _, _, _, _, h => h
  | fuel + 1, _, _, _, _, h => ⟨h.1, fun i hi => wpOpIn_mono (fun a' w' ⟨R', _, _, h3⟩ => any_of fuel _ R' a' w' h3) (h.2 i hi)⟩
theorem first {bar : Nat → Bool} {i : Nat} {oi : Oper} {v : Value} (hro : ∀ o ∈ ops, noDefer o = true) (hi : ops[i]? = some oi) (hc : noCall oi = true) (hsel : ∀ (j : Nat) (o : Oper) cs b, ops[j]? = some o → o.op ≠ .select cs b)
    (hQ : ∀ c a w, Q (.panic c) (a.put oi.dst v) w → Q (.panic c) a w) :
    ∀ (fuel : Nat) (listed : Array Bool) (R : World → Prop) (a : Act) (w : World),
      (∀ j oj, ops[j]? = some oj → j ≠ i → listed.getD j true = false → (∀ e ∈ oj.after, Region.binds md e = true → e.on ≠ i) → oi.apart ops oj = true) →
      (∀ j, listed.getD j true = false → j ≠ i → bar j = true → i ∈ back md ops ops.size (onsOf md ops j)) → Closed md ops listed → i ∈ Region.ready md ops listed → R w → YieldsIf P ops R oi v a →
      anyR bar F n P md ops Q fuel (listed.setIfInBounds i true) R (a.put oi.dst v) w → anyR bar F n P md ops Q (fuel + 1) listed R a w := by
  intro fuel
  induction fuel with
  | zero =>
    intro listed R a w _ _ _ hr hR hy H
    refine ⟨fun h => (by rw [h] at hr; cases hr), fun j hj => ?_⟩
    by_cases hji : j = i
    · subst hji; exact yif_op hro hi hy hc hR ⟨R, hR, .inr rfl, H⟩
    · have := ready_mono hj hji
      rw [H.1] at this
      cases this
  | succ fuel ih =>
    intro listed R a w hfree hbar hcl hr hR hy H
    refine ⟨fun h => (by rw [h] at hr; cases hr), fun j hj => ?_⟩
    by_cases hji : j = i
    · subst hji; exact yif_op hro hi hy hc hR ⟨R, hR, .inr rfl, H⟩
    · have h1 := H.2 j (ready_mono hj hji)
      obtain ⟨hjun, oj, hoj, hall⟩ := mem_ready.1 hj
      have hnot : ∀ e ∈ oj.after, Region.binds md e = true → e.on ≠ i := fun e he hb heq => by
        have h1 := hall e he hb
        have h0 := (mem_ready.1 hr).1
        rw [heq] at h1
        rcases Nat.lt_or_ge i listed.size with h' | h'
        · simp [h'] at h0 h1; rw [h0] at h1; cases h1
        · simp [Array.getElem?_eq_none h'] at h1
      have hb : bar j = false := bar_not hcl hj hr (hbar j hjun hji)
      have h2 := putIf hro hoj (hfree j oj hoj hji hjun hnot) (fun cs b => hsel i oi cs b hi) (fun cs b => hsel j oj cs b hoj) hQ hy h1
      have hfree' : ∀ k ok, ops[k]? = some ok → k ≠ i → (listed.setIfInBounds j true).getD k true = false →
          (∀ e ∈ ok.after, Region.binds md e = true → e.on ≠ i) → oi.apart ops ok = true := fun k ok hk hki hun hno => by
        refine hfree k ok hk hki ?_ hno
        by_cases hjk : j = k
        · subst hjk; exact hjun
        · rw [getD_set_ne true hjk] at hun; exact hun
      have hbar' : ∀ k, (listed.setIfInBounds j true).getD k true = false → k ≠ i → bar k = true → i ∈ back md ops ops.size (onsOf md ops k) := fun k hun hki hbk => by
        refine hbar k ?_ hki hbk
        by_cases hjk : j = k
        · subst hjk; exact hjun
        · rw [getD_set_ne true hjk] at hun; exact hun
      refine wpOpIn_mono (fun a' w' ⟨hy', R', hR', hor, hK⟩ => ?_) h2
      obtain rfl : R' = R := hor.resolve_left (by simp [hb])
      refine ⟨R', hR', .inr rfl, ih (listed.setIfInBounds j true) R' a' w' hfree' hbar' (hcl.set hj) (ready_mono hr (Ne.symm hji)) hR' hy' ?_⟩
      rw [Array.setIfInBounds_comm _ _ hji]
      exact hK
/-- The walk in the order that is handed in: 0: the operation only reads (in every world of R), and calls nothing; 1: it may turn the world, within R; else: it may turn the world anyhow, and waits for all that came before it. -/
def can (F : Fence) (n : Nat) (P : Program) (ops : Array Oper) (Q : Exit → Act → World → Prop) : List (Oper × Nat) → (World → Prop) → Act → World → Prop
  | [], _, a, w => Q .normal a w
  | (o, 0) :: r, R, a, w =>
    if Region.wanted o (yielded ops a.tmps) then ∃ v, (∀ x, R x → (execOp a.eval o).run P x = .ok (.value v) x) ∧ can F n P ops Q r R (a.put o.dst v) w
    else can F n P ops Q r R (a.put o.dst undef) w
  | (o, 1) :: r, R, a, w =>
    if Region.wanted o (yielded ops a.tmps) then o.wpIn F n P a w (fun a' w' => R w' ∧ can F n P ops Q r R a' w') Q
    else (∀ f, o.about P w a.eval = some f → F.fn f) ∧ can F n P ops Q r R (a.put o.dst undef) w
  | (o, _ + 2) :: r, R, a, w =>
    if Region.wanted o (yielded ops a.tmps) then o.wpIn F n P a w (fun a' w' => ∃ R' : World → Prop, R' w' ∧ can F n P ops Q r R' a' w') Q
    else (∀ f, o.about P w a.eval = some f → F.fn f) ∧ can F n P ops Q r R (a.put o.dst undef) w
def pick (l : List Oper) : List (Nat × Nat) → List (Oper × Nat)
  | [] => []
  | (k, e) :: r => match l[k]? with | some o => (o, e) :: pick l r | none => []
/-- The walk, behind a name that nothing opens. -/
structure Can (F : Fence) (n : Nat) (P : Program) (ops : Array Oper) (Q : Exit → Act → World → Prop) (l : List (Oper × Nat)) (R : World → Prop) (a : Act) (w : World) : Prop where
  out : can F n P ops Q l R a w
/-- Which operations have all that comes before them in the order that is handed in behind them for good. -/
def barOf (σ : List (Nat × Nat)) (j : Nat) : Bool := σ.any fun p => p.1 == j && decide (2 ≤ p.2)
theorem can_nil {R : World → Prop} {a : Act} {w : World} (h : Q .normal a w) : Can F n P ops Q [] R a w := ⟨h⟩
end
end Go.Proofs.Ytoleiiicbnmhpaa.RegF
namespace Go.Proofs.Ytoleiiicbnmhpaa.RegS
open Go RegR
section
variable {P : Program} {ops : Array Oper} {Q : Exit → Act → World → Prop}
structure Can (P : Program) (ops : Array Oper) (Q : Exit → Act → World → Prop) (l : List (Oper × Nat)) (R : World → Prop) (a : Act) (w : World) : Prop where
  out : wpCan P ops Q l R a w
/-- The last operation of all. -/
theorem last {R : World → Prop} {a : Act} {w : World} {o : Oper} {r : List (Oper × Nat)}
    (h : ∀ K : Act → World → Prop, (∀ a w, Q .normal a w → K a w) → if Region.wanted o (yielded ops a.tmps) then o.wp P a w K Q else K (a.put o.dst undef) w) :
    Can P ops Q ((o, 2) :: r) R a w := ⟨can_last h⟩
theorem nil {R : World → Prop} {a : Act} {w : World} (h : Q .normal a w) : Can P ops Q [] R a w := ⟨can_nil h⟩
end
end Go.Proofs.Ytoleiiicbnmhpaa.RegS
namespace Go.Proofs.Ytoleiiicbnmhpaa
open Go.RowKit Go.Shelf
attribute [local go_sem] Oper.semAt_some
theorem KeptW.refl (w : World) : KeptW w w := Below.refl _ _
end Go.Proofs.Ytoleiiicbnmhpaa
namespace Go.Proofs.Ytoleiiicbnmhpaa
open Go.RowKit
open Go.Shelf
/-- The library's contract of bits.Len64, at this program. -/
def len64_ren : Go.Shelf.Ren := ⟨fun | 129 => 51 | n => n, fun | 3 => 3 | 4 => 4 | 5 => 5 | 9 => 9 | 46 => 68 | 53 => 31 | n => n, fun n => n⟩
theorem len64_lays : Lays.n129 Try.prog len64_ren :=
  { mixed := by kernel_rfl, f129 := by kernel_rfl
    t3 := by kernel_rfl, a3 := fun _ => by kernel_rfl, z3 := fun _ => by kernel_rfl, v3 := fun _ => by kernel_rfl
    t4 := by kernel_rfl, a4 := fun _ => by kernel_rfl, z4 := fun _ => by kernel_rfl, v4 := fun _ => by kernel_rfl
    t5 := by kernel_rfl, a5 := fun _ => by kernel_rfl, z5 := fun _ => by kernel_rfl, v5 := fun _ => by kernel_rfl
    t9 := by kernel_rfl, a9 := fun _ => by kernel_rfl, z9 := fun _ => by kernel_rfl, v9 := fun _ => by kernel_rfl
    t46 := by kernel_rfl, a46 := fun _ => by kernel_rfl, z46 := fun _ => by kernel_rfl, v46 := fun _ => by kernel_rfl
    t53 := by kernel_rfl, a53 := fun _ => by kernel_rfl, z53 := fun _ => by kernel_rfl, v53 := fun _ => by kernel_rfl
  }
theorem len64_any (n : Nat) (hn : n < 18446744073709551616) (w : World) : Calls Try.prog 51 #[.int .u64 (n : Int)] w fun e w' => e = .returned (.int .i64 (Lib.bitLen n : Int)) ∧ w = w' := by
  have h := Any.bits_Len64 len64_lays (n : Int) w (by omega) (by omega)
  rw [Int.toNat_natCast] at h
  exact h.mono fun e w' hh => ⟨hh.1, hh.2.symm⟩
end Go.Proofs.Ytoleiiicbnmhpaa
namespace Go.Proofs.Ytoleiiicbnmhpaa.RegJ
open Go RegK
/-- A plan with its operations. -/
inductive PlanO where
  | nil : PlanO
  | bad : PlanO
  | step (o : Oper) (e : Nat) (r : PlanO) : PlanO
  | fork (o : Oper) (r : PlanO) (u : Oper) (s : PlanO) : PlanO
section
variable {F : Fence} {n : Nat} {P : Program} {ops : Array Oper} {Q : Exit → Act → World → Prop} {md : Region.Mode}
/-- The walk: 0 reads only, 1 turns the world within R; at a fork both ways. -/
def canJ (F : Fence) (n : Nat) (P : Program) (ops : Array Oper) (Q : Exit → Act → World → Prop) : PlanO → (World → Prop) → Act → World → Prop
  | .nil, _, a, w => Q .normal a w
  | .bad, _, _, _ => False
  | .step o 0 r, R, a, w =>
    if Region.wanted o (yielded ops a.tmps) then ∃ v, (∀ x, R x → (execOp a.eval o).run P x = .ok (.value v) x) ∧ canJ F n P ops Q r R (a.put o.dst v) w
    else canJ F n P ops Q r R (a.put o.dst undef) w
  | .step o (_ + 1) r, R, a, w =>
    if Region.wanted o (yielded ops a.tmps) then o.wpIn F n P a w (fun a' w' => ∃ R' : World → Prop, (∀ x, R' x → R x) ∧ R' w' ∧ canJ F n P ops Q r R' a' w') Q
    else (∀ f, o.about P w a.eval = some f → F.fn f) ∧ canJ F n P ops Q r R (a.put o.dst undef) w
  | .fork o r u s, R, a, w =>
    (if Region.wanted o (yielded ops a.tmps) then o.wpIn F n P a w (fun a' w' => ∃ R' : World → Prop, (∀ x, R' x → R x) ∧ R' w' ∧ canJ F n P ops Q r R' a' w') Q
      else (∀ f, o.about P w a.eval = some f → F.fn f) ∧ canJ F n P ops Q r R (a.put o.dst undef) w) ∧
    (if Region.wanted u (yielded ops a.tmps) then u.wpIn F n P a w (fun a' w' => ∃ R' : World → Prop, (∀ x, R' x → R x) ∧ R' w' ∧ canJ F n P ops Q s R' a' w') Q
      else (∀ f, u.about P w a.eval = some f → F.fn f) ∧ canJ F n P ops Q s R (a.put u.dst undef) w)
/-- The walk, behind a name that nothing opens. -/
structure Can (F : Fence) (n : Nat) (P : Program) (ops : Array Oper) (Q : Exit → Act → World → Prop) (l : PlanO) (R : World → Prop) (a : Act) (w : World) : Prop where
  out : canJ F n P ops Q l R a w
theorem nil {R : World → Prop} {a : Act} {w : World} (h : Q .normal a w) : Can F n P ops Q .nil R a w := ⟨h⟩
end
end Go.Proofs.Ytoleiiicbnmhpaa.RegJ
namespace Go.Proofs.Ytoleiiicbnmhpaa
open Go.RowKit
theorem st_eq {g : Nat} : ∀ (vs : List Value) (i : Nat) (y : World), y.setCells g i vs = rowSt y g i vs
  | [], _, _ => rfl
  | _ :: r, i, _ => st_eq r (i + 1) _
theorem range_row {y : World} {g : Nat} {cs : List Value} {t : TypeId} (h : y.heap[g]? = some (.cells cs.toArray t (0, 0))) : y.rangeAt g 0 cs := fun j v hv => by
  rw [Nat.zero_add]
  simp only [World.cell?, h]
  simpa using hv
theorem there_row {y : World} {g : Nat} {cs : List Value} {t : TypeId} (h : y.heap[g]? = some (.cells cs.toArray t (0, 0))) : y.there g 0 cs.length := fun j hj => ⟨by
  rw [Nat.zero_add]
  simp only [World.cell?, h]
  simp [hj], by
  rw [Nat.zero_add]
  unfold World.frozen?
  rw [h]
  rfl⟩
/-- A new variable, and what is stored into it. -/
theorem box_row (y : World) (cs0 cs : List Value) (t : TypeId) (hl : cs0.length = cs.length) : ((y.alloc (.cells cs0.toArray t)).setCells y.heap.size 0 cs).heap[y.heap.size]? = some (.cells cs.toArray t (0, 0)) := by
  rw [st_eq]
  exact rowSt_row cs [] cs0 _ (heap_alloc_new _ _) hl
theorem box_below (y : World) (cs0 cs : List Value) (t : TypeId) : Below y.heap.size y ((y.alloc (.cells cs0.toArray t)).setCells y.heap.size 0 cs) := by
  rw [st_eq]
  exact rowSt_below (Nat.le_refl _) cs 0 _ ((Below.refl _ _).alloc (Nat.le_refl _) _)
end Go.Proofs.Ytoleiiicbnmhpaa
namespace Go.Proofs.Ytoleiiicbnmhpaa
open Go.RowKit
/-- The set of one node. -/
def ofS (n : Nat) : Nat := if n < 7 then 1 <<< n else 0
def withS (x y : Nat) : Nat := (x ||| y) &&& 127
def hasS (x n : Nat) : Bool := x &&& ofS n != 0
def needS (x : Nat) : Nat := pop8 (x &&& 127) / 2 + 1
def majorS (x y : Nat) : Bool := decide (needS x ≤ pop8 (bothS x y &&& 127))
theorem of_lt (n : Nat) : ofS n < 128 := by
  unfold ofS
  split
  · next h => have : n = 0 ∨ n = 1 ∨ n = 2 ∨ n = 3 ∨ n = 4 ∨ n = 5 ∨ n = 6 := by omega
              rcases this with rfl | rfl | rfl | rfl | rfl | rfl | rfl <;> decide
  · omega
theorem pop8_lt (x : Nat) (hx : x < 256) : pop8 x ≤ 8 := by
  have h : ∀ i : Fin 256, pop8 i.val ≤ 8 := by decide +kernel
  exact h ⟨x, hx⟩
theorem of_bit {n : Nat} (h : n < 7) : bits .or .u8 0 ((2 : Int) ^ n % 256) = (ofS n : Int) := by
  have : n = 0 ∨ n = 1 ∨ n = 2 ∨ n = 3 ∨ n = 4 ∨ n = 5 ∨ n = 6 := by omega
  rcases this with rfl | rfl | rfl | rfl | rfl | rfl | rfl <;> decide +kernel
set_option maxRecDepth 100000 in
theorem of_any (n : Nat) (hn : n < 256) (g o c : Nat) (w : World) (h : w.cell? ⟨g, o, none⟩ = some (.int .u8 (n : Int))) :
    Calls Try.prog 12 #[.slice (some ⟨g, o, none⟩) 1 c] w fun e w' => e = .returned (.int .u8 (ofS n : Int)) ∧ w = w' := by
  go_enter Try.func12, Try.ntmps12
  go_upto_region 3 with fail
  go_loopw [3, 8] (fun s3 s8 wr => w = wr ∧ ((s8 = .int .i64 0 ∧ s3 = .int .u8 0) ∨ (s8 = .int .i64 1 ∧ s3 = .int .u8 (ofS n : Int)))) (fun _ s8 _ => 1 - (intOf s8).toNat)
  case atStart => exact ⟨rfl, .inl ⟨rfl, rfl⟩⟩
  case round =>
    obtain ⟨rfl, ⟨rfl, rfl⟩ | ⟨rfl, rfl⟩⟩ := hrel
    · by_cases h7 : n < 7
      · have h7' : (n : Int) < 7 := by omega
        have hsh := of_bit h7
        go_wp2_with fail
        exact ⟨⟨trivial, .inr ⟨rfl, rfl⟩⟩, by simp [intOf]⟩
      · have h7' : ¬ (n : Int) < 7 := by omega
        have ho : ofS n = 0 := if_neg h7
        go_wp2_with fail
        exact ⟨⟨trivial, .inr ⟨rfl, by rw [ho]; rfl⟩⟩, by simp [intOf]⟩
    · go_wp2_with fail
      go_ret
      exact ⟨rfl, rfl⟩
theorem with_any (x y : Nat) (hx : x < 256) (hy : y < 256) (w : World) : Calls Try.prog 8 #[.int .u8 (x : Int), .int .u8 (y : Int)] w fun e w' => e = .returned (.int .u8 (withS x y : Int)) ∧ w = w' := by
  have h1 : bits .or .u8 (x : Int) (y : Int) = ((x ||| y : Nat) : Int) := u8_or_nat x y hx hy
  have h2 := u8_127 (x := x ||| y) (Nat.or_lt_two_pow (n := 8) hx hy)
  go_enter Try.func8, Try.ntmps8
  go_wp2_with fail
  go_ret
  exact ⟨rfl, rfl⟩
theorem has_any (x n : Nat) (hx : x < 256) (hn : n < 256) (w : World) : Calls Try.prog 23 #[.int .u8 (x : Int), .int .u8 (n : Int)] w fun e w' => e = .returned (.bool (hasS x n)) ∧ Below w.heap.size w w' := by
  have h1 : bits .and .u8 (x : Int) (ofS n : Int) = ((x &&& ofS n : Nat) : Int) := u8_and_nat x (ofS n) hx (by have := of_lt n; omega)
  have hb := (Below.refl w.heap.size w).alloc (Nat.le_refl _) (.cells #[.int .u8 (n : Int)] 5)
  have Hb := Lib.hid hb
  have Ho := Lib.hid (of_any n hn w.heap.size 0 1 (w.alloc (.cells #[.int .u8 (n : Int)] 5)) (cell_of_row _ _ _ _ _ _ (heap_alloc_new _ _)))
  clear hb
  have h2 : (((x &&& ofS n : Nat) : Int) != 0) = hasS x n := by
    unfold hasS
    rw [Bool.eq_iff_iff, bne_iff_ne, bne_iff_ne]
    omega
  go_enter Try.func23, Try.ntmps23
  go_wp2_with ((with_reducible refine Ho.out.mono ?_); rintro e w' ⟨rfl, rfl⟩)
  go_ret
  exact ⟨rfl, Hb.out⟩
theorem need_any (x : Nat) (hx : x < 256) (w : World) : Calls Try.prog 26 #[.int .u8 (x : Int)] w fun e w' => e = .returned (.int .i64 (needS x : Int)) ∧ w = w' := by
  have hp := pop8_lt (x &&& 127) (and_byte hx)
  have Hl := Lib.hid (len8_any x hx w)
  unfold needS
  obtain ⟨p, hp2⟩ : ∃ p, pop8 (x &&& 127) = p := ⟨_, rfl⟩
  rw [hp2] at hp Hl ⊢
  have h1 : (p : Int).tdiv 2 = ((p / 2 : Nat) : Int) := by rw [Int.tdiv_eq_ediv_of_nonneg (by omega)]; omega
  have h2 : IntKind.i64.wrap ((p / 2 : Nat) : Int) = ((p / 2 : Nat) : Int) := by rw [IntKind.wrap_i64]; omega
  have h3 : IntKind.i64.wrap (((p / 2 : Nat) : Int) + 1) = ((p / 2 + 1 : Nat) : Int) := by rw [IntKind.wrap_i64]; omega
  go_enter Try.func26, Try.ntmps26
  go_wp2_with ((with_reducible refine Hl.out.mono ?_); rintro e w' ⟨rfl, rfl⟩)
  go_ret
  exact ⟨congrArg (fun z => Ending.returned (Value.int .i64 z)) (show (p : Int) / 2 + 1 = ((p / 2 + 1 : Nat) : Int) by omega), rfl⟩
theorem major_any (x y : Nat) (hx : x < 256) (hy : y < 256) (w : World) : Calls Try.prog 14 #[.int .u8 (x : Int), .int .u8 (y : Int)] w fun e w' => e = .returned (.bool (majorS x y)) ∧ w = w' := by
  have hb : bothS x y < 256 := and_byte (and_byte hx)
  have Hb := Lib.hid (both_any x y hx hy w)
  have Hl := Lib.hid (len8_any (bothS x y) hb w)
  have Hn := Lib.hid (need_any x hx w)
  unfold majorS
  generalize needS x = q at *
  generalize bothS x y = b at *
  generalize pop8 (b &&& 127) = p at *
  clear hb
  go_enter Try.func14, Try.ntmps14
  go_wp2_with (first
    | ((with_reducible refine Hb.out.mono ?_); rintro e w' ⟨rfl, rfl⟩)
    | ((with_reducible refine Hl.out.mono ?_); rintro e w' ⟨rfl, rfl⟩)
    | ((with_reducible refine Hn.out.mono ?_); rintro e w' ⟨rfl, rfl⟩))
  go_ret
  exact ⟨rfl, rfl⟩
end Go.Proofs.Ytoleiiicbnmhpaa
namespace Go.Proofs.Ytoleiiicbnmhpaa
open Go.RowKit Go.Sort
/-- The row, behind n draws. -/
def rw64 (w : World) (n b : Nat) (d : Array Int) : World := putRow (Value.int .u64) (Sort.ahead w n) b 0 d
/-- The row is d in w. -/
abbrev R64 (w : World) (b : Nat) (d : Array Int) : Prop := Holds (Value.int .u64) w b 0 d
theorem rw_cell {w : World} {b : Nat} {d0 : Array Int} (h : R64 w b d0) (n : Nat) {d : Array Int} (hs : d.size = d0.size) (i : Nat) (hi : i < d0.size) : (rw64 w n b d).cell? ⟨b, i, none⟩ = some (.int .u64 d[i]!) := by
  have q := cell?_putRow (Value.int .u64) _ b 0 d0 d (holds_ahead _ _ n _ _ _ h) hs i (by omega)
  rwa [Nat.zero_add] at q
theorem rw_thaw {w : World} {b : Nat} {d0 : Array Int} (h : R64 w b d0) (n : Nat) (d : Array Int) (i : Nat) (hi : i < d0.size) : (rw64 w n b d).frozen? ⟨b, i, none⟩ = false := by
  have q := (holds_ahead _ _ n _ _ _ h i hi).2
  unfold rw64
  rw [frozen?_putRow]
  rwa [Nat.zero_add] at q
theorem rw_draw (w : World) (n q b : Nat) (d : Array Int) : (rw64 w n b d).drewN q = rw64 w (n + q) b d := putRow_drewN _ w n q b 0 d
theorem rw_swap (w : World) (n q b : Nat) (d : Array Int) (i j : Nat) (hi : i < d.size) (hj : j < d.size) : (((rw64 w n b d).drewN q).setCell ⟨b, i, none⟩ (.int .u64 d[j]!)).setCell ⟨b, j, none⟩ (.int .u64 d[i]!) = rw64 w (n + q) b (swp d i j) := by
  have h := swap_worldA (Value.int .u64) w n q b 0 d i j hi hj
  rwa [Nat.zero_add, Nat.zero_add] at h
theorem rw_new {w : World} {b : Nat} {d : Array Int} (h : R64 w b d) : w = rw64 w 0 b d := (putRow_self _ _ _ _ _ h).symm
theorem rw_holds {w : World} {b : Nat} {d0 d : Array Int} (h : R64 w b d0) (n : Nat) (hs : d.size = d0.size) : R64 (rw64 w n b d) b d := holds_putRow _ _ _ _ _ _ (holds_ahead _ _ n _ _ _ h) hs
theorem nan_any (x : Int) (w : World) : Calls Try.prog 57 #[.int .u64 x] w fun e w' => e = .returned (.bool false) ∧ w' = w := by
  go_enter Try.func57, Try.ntmps57
  go_wp2_with fail
  go_ret
  exact ⟨by simp, rfl⟩
theorem less_any (x y : Int) (w : World) : Calls Try.prog 47 #[.int .u64 x, .int .u64 y] w fun e w' => e = .returned (.bool (ltInt x y)) ∧ w' = w := by
  have H := Lib.hid (fun (z : Int) (y : World) => nan_any z y)
  go_enter Try.func47, Try.ntmps47
  go_wp2_with ((with_reducible refine (H.out _ _).mono ?_); rintro e w' ⟨rfl, rfl⟩)
  go_ret
  exact ⟨rfl, rfl⟩
set_option maxRecDepth 100000 in
theorem ins64 (b cap x y : Nat) (d : Array Int) (w : World) (hR : R64 w b d) (hxy : x ≤ y) (hy : y ≤ d.size) (hsz : d.size < 4611686018427387904) :
    Calls Try.prog 41 #[.slice (some ⟨b, 0, none⟩) d.size cap, .int .i64 (x : Int), .int .i64 (y : Int)] w fun e w' => e = .returned (.tuple #[]) ∧ ∃ n, w' = rw64 w n b (insertionSort ltInt d x y) := by
  have HR := Lib.hid hR
  clear hR
  generalize hL : d.size = L at *
  go_enter Try.func41, Try.ntmps41
  go_upto_region 1 with fail
  go_loopw [6] (fun s6 wr => ∃ (i n : Nat) (c : Array Int), s6 = .int .i64 (i : Int) ∧ x < i ∧ i ≤ y + 1 ∧ c.size = L ∧ wr = rw64 w n b c ∧ insOuter ltInt x y i c = insertionSort ltInt d x y) (fun s6 _ => y + 1 - (intOf s6).toNat)
  case atStart => exact ⟨x + 1, 0, d, rfl, by omega, by omega, hL, rw_new HR.out, rfl⟩
  case round =>
    obtain ⟨i, n, c, rfl, hxi, hiy, hc, hw, ho⟩ := hrel
    have HO := Lib.hid ho
    clear ho
    by_cases hi : i < y
    · have hi' : (i : Int) < (y : Int) := by omega
      go_upto_region 4 with fail
      go_loopw [7] (fun s7 wr2 => ∃ (j m : Nat) (c2 : Array Int), s7 = .int .i64 (j : Int) ∧ x ≤ j ∧ j ≤ i ∧ c2.size = L ∧ wr2 = rw64 w m b c2 ∧ insInner ltInt x j c2 = insInner ltInt x i c) (fun s7 _ => (intOf s7).toNat)
      case atStart => exact ⟨i, n, c, rfl, by omega, Nat.le_refl _, hc, by first | exact hw | rfl, rfl⟩
      case round =>
        clear hw
        obtain ⟨j, m, c2, rfl, hxj, hji, hc2, hw2, hin⟩ := hrel
        have HI := Lib.hid hin
        clear hin
        by_cases hj : x < j
        · have hj' : (x : Int) < (j : Int) := by omega
          have c0 := rw_cell HR.out m (d := c2) (by rw [hc2, hL]) j (by omega)
          have c1 := rw_cell HR.out m (d := c2) (by rw [hc2, hL]) (j - 1) (by omega)
          have t0 := rw_thaw HR.out m c2 j (by omega)
          have t1 := rw_thaw HR.out m c2 (j - 1) (by omega)
          rw [← hw2] at c0 c1 t0 t1
          have HW := Lib.hid hw2
          obtain ⟨vj, hvj⟩ : ∃ v, v = c2[j]! := ⟨_, rfl⟩
          obtain ⟨vk, hvk⟩ : ∃ v, v = c2[j - 1]! := ⟨_, rfl⟩
          rw [← hvj] at c0
          rw [← hvk] at c1
          have HV := Lib.hid (And.intro hvj hvk)
          clear hw2 hvj hvk
          cases hl : ltInt vj vk
          · go_wp2_with fail
            go_quiet (first | (go_at_call 47; exact Calls.quiet_of_same (less_any _ _ _)))
            go_wp2_with fail
            exact ⟨⟨i + 1, m + nq, c2, rfl, by omega, by omega, hc2, by rw [HW.out]; exact rw_draw _ _ _ _ _, by rw [← HO.out, insOuter_go _ _ _ _ _ hi, ← HI.out, insInner_stop _ _ _ _ (.inr (by rw [← HV.out.1, ← HV.out.2]; exact hl))]⟩, by simp only [intOf]; omega⟩
          · go_wp2_with fail
            go_quiet (first | (go_at_call 47; exact Calls.quiet_of_same (less_any _ _ _)))
            go_wp2_with fail
            go_region
            all_goals go_wp2_with fail
            refine ⟨⟨j - 1, m + (nq + 1), swp c2 j (j - 1), by congr 1; omega, by omega, by omega, by rw [size_swp]; exact hc2, ?_, ?_⟩, by simp only [intOf]; omega⟩
            · rw [HW.out, HV.out.1, HV.out.2]
              exact rw_swap w m (nq + 1) b c2 j (j - 1) (by omega) (by omega)
            · rw [← HI.out, insInner_go _ _ _ _ hj (by rw [← HV.out.1, ← HV.out.2]; exact hl)]
        · have hj' : ¬ (x : Int) < (j : Int) := by omega
          go_wp2_with fail
          go_quiet (first | (go_at_call 47; exact Calls.quiet_of_same (less_any _ _ _)))
          go_wp2_with fail
          exact ⟨⟨i + 1, m + nq, c2, rfl, by omega, by omega, hc2, rw_draw _ _ _ _ _, by rw [← HO.out, insOuter_go _ _ _ _ _ hi, ← HI.out, insInner_stop _ _ _ _ (.inl (by omega))]⟩, by simp only [intOf]; omega⟩
    · have hi' : ¬ (i : Int) < (y : Int) := by omega
      go_wp2_with fail
      refine bodyPost_end (results_none rfl _ _ _) rfl ?_
      exact ⟨rfl, n, by rw [← HO.out, insOuter_stop _ _ _ _ _ hi]⟩
end Go.Proofs.Ytoleiiicbnmhpaa
namespace Go.Proofs.Ytoleiiicbnmhpaa
open Go.RowKit Go.Sort
set_option maxRecDepth 100000 in
set_option maxHeartbeats 16000000 in
theorem sift64 (b cap lo hi F : Nat) (d : Array Int) (w : World) (hR : R64 w b d) (hF : F + hi ≤ d.size) (hlo : lo < hi ∨ lo = 0) (hsz : d.size < 1152921504606846976) :
    Calls Try.prog 52 #[.slice (some ⟨b, 0, none⟩) d.size cap, .int .i64 (lo : Int), .int .i64 (hi : Int), .int .i64 (F : Int)] w fun e w' => e = .returned (.tuple #[]) ∧ ∃ n, w' = rw64 w n b (siftDown ltInt hi F lo d) := by
  have HR := Lib.hid hR
  clear hR
  generalize hL : d.size = L at *
  go_enter Try.func52, Try.ntmps52
  go_upto_region 1 with fail
  go_loopw [8] (fun s8 wr => ∃ (r n : Nat) (c : Array Int), s8 = .int .i64 (r : Int) ∧ (r < hi ∨ r = 0) ∧ c.size = L ∧ wr = rw64 w n b c ∧ siftDown ltInt hi F r c = siftDown ltInt hi F lo d) (fun s8 _ => hi - (intOf s8).toNat)
  case atStart => exact ⟨lo, 0, d, rfl, hlo, hL, rw_new HR.out, rfl⟩
  case round =>
    obtain ⟨r, n, c, rfl, hr, hc, hw, ho⟩ := hrel
    have HO := Lib.hid ho
    have HW := Lib.hid hw
    clear ho hlo hw
    have b0 : r < 1152921504606846976 := by omega
    have b1 : F < 1152921504606846976 := by omega
    have b2 : hi < 1152921504606846976 := by omega
    by_cases hend : hi ≤ 2 * r + 1
    · have hend' : (hi : Int) ≤ 2 * (r : Int) + 1 := by omega
      go_wp2_with fail
      refine bodyPost_end (results_none rfl _ _ _) rfl ?_
      exact ⟨rfl, n, by rw [← HO.out, sd_end _ _ hend]; exact HW.out⟩
    · have hend' : ¬ (hi : Int) ≤ 2 * (r : Int) + 1 := by omega
      go_upto_region 3 with fail
      have cellN := fun m i (h : i < L) => rw_cell HR.out m (d := c) (by rw [hc, hL]) i (by omega)
      have thawN := fun m i (h : i < L) => rw_thaw HR.out m c i (by omega)
      obtain ⟨ch, hche⟩ : ∃ y : Nat, y = 2 * r + 1 := ⟨_, rfl⟩
      have hce : 2 * (r : Int) + 1 = (ch : Int) := by omega
      obtain ⟨x0, hx0e⟩ : ∃ y : Nat, y = F + r := ⟨_, rfl⟩
      obtain ⟨x1, hx1e⟩ : ∃ y : Nat, y = F + ch := ⟨_, rfl⟩
      have w1 : IntKind.i64.wrap ((ch : Int) + 1) = (ch : Int) + 1 := by rw [IntKind.wrap_i64]; omega
      have w2 : IntKind.i64.wrap ((F : Int) + (ch : Int)) = (x1 : Int) := by rw [IntKind.wrap_i64]; omega
      have w3 : IntKind.i64.wrap ((x1 : Int) + 1) = ((x1 + 1 : Nat) : Int) := by rw [IntKind.wrap_i64]; omega
      have w4 : IntKind.i64.wrap ((F : Int) + (r : Int)) = (x0 : Int) := by rw [IntKind.wrap_i64]; omega
      have hx0 : x0 < L := by omega
      have hx1 : x1 < L := by omega
      obtain ⟨v0, hv0⟩ : ∃ v, v = c[x0]! := ⟨_, rfl⟩
      have HV0 := Lib.hid hv0
      clear hv0
      obtain ⟨v1, hv1⟩ : ∃ v, v = c[x1]! := ⟨_, rfl⟩
      have HV1 := Lib.hid hv1
      clear hv1
      have HE := Lib.hid (And.intro hx1e (And.intro hx0e hche))
      have c0 := cellN (n) x0 hx0
      have t0 := thawN (n) x0 hx0
      rw [← HW.out, ← HV0.out] at c0
      rw [← HW.out] at t0
      have c1 := cellN (n) x1 hx1
      have t1 := thawN (n) x1 hx1
      rw [← HW.out, ← HV1.out] at c1
      rw [← HW.out] at t1
      rw [hce]
      clear hce
      by_cases h2 : ch + 1 < hi
      · have h2' : (ch : Int) + 1 < (hi : Int) := by omega
        have hx2 : x1 + 1 < L := by omega
        clear hx1e hx0e hche
        obtain ⟨v2, hv2⟩ : ∃ v, v = c[x1 + 1]! := ⟨_, rfl⟩
        have HV2 := Lib.hid hv2
        clear hv2
        have c2 := cellN (n) (x1 + 1) hx2
        have t2 := thawN (n) (x1 + 1) hx2
        rw [← HW.out, ← HV2.out] at c2
        rw [← HW.out] at t2
        cases hl : ltInt v1 v2
        · go_quiet (first | (go_at_call 47; exact Calls.quiet_of_same (less_any _ _ _)))
          revert nq; intro q1
          go_upto_region 5 with fail
          clear c0 c1 t0 t1
          clear c2 t2
          have hwd : wr.drewN q1 = rw64 w (n + q1) b c := by rw [HW.out]; exact rw_draw _ _ _ _ _
          generalize wr.drewN q1 = wr2 at hwd ⊢
          have HW2 := Lib.hid hwd
          clear hwd
          have c0 := cellN (n + q1) x0 hx0
          have t0 := thawN (n + q1) x0 hx0
          rw [← HW2.out, ← HV0.out] at c0
          rw [← HW2.out] at t0
          have c1 := cellN (n + q1) x1 hx1
          have t1 := thawN (n + q1) x1 hx1
          rw [← HW2.out, ← HV1.out] at c1
          rw [← HW2.out] at t1
          have hne : ¬ x0 = x1 := by have := HE.out; omega
          cases hl2 : ltInt v0 v1
          · go_quiet (first | (go_at_call 47; exact Calls.quiet_of_same (less_any _ _ _)))
            go_wp2_with fail
            refine bodyPost_ret (results_none rfl _ _ _) rfl ?_
            refine ⟨rfl, n + q1 + nq, ?_⟩
            rw [← HO.out, sd_left_stop ltInt c (by have := HE.out; omega) (fun _ => by have q := HE.out; rw [show F + (2 * r + 1) = x1 by omega, show F + (2 * r + 2) = x1 + 1 by omega, ← HV1.out, ← HV2.out]; exact hl) (by have q := HE.out; rw [show F + r = x0 by omega, show F + (2 * r + 1) = x1 by omega, ← HV0.out, ← HV1.out]; exact hl2)]
            first | exact rw_draw _ _ _ _ _ | (rw [HW2.out]; exact rw_draw _ _ _ _ _)
          · go_quiet (first | (go_at_call 47; exact Calls.quiet_of_same (less_any _ _ _)))
            go_wp2_with fail
            go_region
            all_goals go_wp2_with fail
            refine ⟨⟨ch, n + q1 + (nq + 1), swp c x0 x1, rfl, by have := HE.out; omega, by rw [size_swp]; exact hc, ?_, ?_⟩, by have := HE.out; simp only [intOf, Int.toNat_natCast]; omega⟩
            · first | (rw [HW2.out, HV0.out, HV1.out]; exact rw_swap w _ _ b c x0 x1 (by omega) (by omega)) | (rw [HV0.out, HV1.out]; exact rw_swap w _ _ b c x0 x1 (by omega) (by omega))
            · rw [← HO.out, sd_left_go ltInt c (by have := HE.out; omega) (fun _ => by have q := HE.out; rw [show F + (2 * r + 1) = x1 by omega, show F + (2 * r + 2) = x1 + 1 by omega, ← HV1.out, ← HV2.out]; exact hl) (by have q := HE.out; rw [show F + r = x0 by omega, show F + (2 * r + 1) = x1 by omega, ← HV0.out, ← HV1.out]; exact hl2), show F + (2 * r + 1) = x1 by have := HE.out; omega, show F + r = x0 by have := HE.out; omega, show 2 * r + 1 = ch by have := HE.out; omega]
        · go_quiet (first | (go_at_call 47; exact Calls.quiet_of_same (less_any _ _ _)))
          revert nq; intro q1
          obtain ⟨x2, hx2e⟩ : ∃ y : Nat, y = x1 + 1 := ⟨_, rfl⟩
          obtain ⟨k, hke⟩ : ∃ y : Nat, y = ch + 1 := ⟨_, rfl⟩
          have w5 : IntKind.i64.wrap ((F : Int) + (k : Int)) = (x2 : Int) := by have := HE.out; rw [IntKind.wrap_i64]; omega
          have w6 : (ch : Int) + 1 = (k : Int) := by omega
          have w7 : IntKind.i64.wrap ((ch : Int) + 1) = (k : Int) := by rw [w1]; exact w6
          have HK := Lib.hid (And.intro hx2e hke)
          clear w1 w3 c2 t2
          have HV2' := HV2.out
          rw [← hx2e] at HV2' hx2
          clear HV2
          have HV2 := Lib.hid HV2'
          clear HV2' hx2e hke
          go_upto_region 5 with fail
          clear c0 c1 t0 t1
          try rw [w6]
          have hwd : wr.drewN q1 = rw64 w (n + q1) b c := by rw [HW.out]; exact rw_draw _ _ _ _ _
          generalize wr.drewN q1 = wr2 at hwd ⊢
          have HW2 := Lib.hid hwd
          clear hwd
          have c0 := cellN (n + q1) x0 hx0
          have t0 := thawN (n + q1) x0 hx0
          rw [← HW2.out, ← HV0.out] at c0
          rw [← HW2.out] at t0
          have c2 := cellN (n + q1) x2 hx2
          have t2 := thawN (n + q1) x2 hx2
          rw [← HW2.out, ← HV2.out] at c2
          rw [← HW2.out] at t2
          have hne : ¬ x0 = x2 := by have := HE.out; have := HK.out; omega
          cases hl2 : ltInt v0 v2
          · go_quiet (first | (go_at_call 47; exact Calls.quiet_of_same (less_any _ _ _)))
            go_wp2_with fail
            refine bodyPost_ret (results_none rfl _ _ _) rfl ?_
            refine ⟨rfl, n + q1 + nq, ?_⟩
            rw [← HO.out, sd_right_stop ltInt c (by have := HE.out; have := HK.out; omega) (by rw [show F + (2 * r + 1) = x1 by have := HE.out; have := HK.out; omega, show F + (2 * r + 2) = x2 by have := HE.out; have := HK.out; omega, ← HV1.out, ← HV2.out]; exact hl) (by rw [show F + r = x0 by have := HE.out; have := HK.out; omega, show F + (2 * r + 2) = x2 by have := HE.out; have := HK.out; omega, ← HV0.out, ← HV2.out]; exact hl2)]
            first | exact rw_draw _ _ _ _ _ | (rw [HW2.out]; exact rw_draw _ _ _ _ _)
          · go_quiet (first | (go_at_call 47; exact Calls.quiet_of_same (less_any _ _ _)))
            go_wp2_with fail
            go_region
            all_goals go_wp2_with fail
            refine ⟨⟨k, n + q1 + (nq + 1), swp c x0 x2, rfl, by have := HE.out; have := HK.out; omega, by rw [size_swp]; exact hc, ?_, ?_⟩, by have := HE.out; have := HK.out; simp only [intOf, Int.toNat_natCast]; omega⟩
            · first | (rw [HW2.out, HV0.out, HV2.out]; exact rw_swap w _ _ b c x0 x2 (by omega) (by omega)) | (rw [HV0.out, HV2.out]; exact rw_swap w _ _ b c x0 x2 (by omega) (by omega))
            · rw [← HO.out, sd_right_go ltInt c (by have := HE.out; have := HK.out; omega) (by rw [show F + (2 * r + 1) = x1 by have := HE.out; have := HK.out; omega, show F + (2 * r + 2) = x2 by have := HE.out; have := HK.out; omega, ← HV1.out, ← HV2.out]; exact hl) (by rw [show F + r = x0 by have := HE.out; have := HK.out; omega, show F + (2 * r + 2) = x2 by have := HE.out; have := HK.out; omega, ← HV0.out, ← HV2.out]; exact hl2), show F + (2 * r + 2) = x2 by have := HE.out; have := HK.out; omega, show F + r = x0 by have := HE.out; have := HK.out; omega, show 2 * r + 2 = k by have := HE.out; have := HK.out; omega]
      · have h2' : decide ((ch : Int) + 1 < (hi : Int)) = false := by simp; omega
        clear hx1e hx0e hche
        go_quiet (first | (go_at_call 47; exact Calls.quiet_of_same (less_any _ _ _)))
        revert nq; intro q1
        go_upto_region 5 with fail
        clear c0 c1 t0 t1
        have hwd : wr.drewN q1 = rw64 w (n + q1) b c := by rw [HW.out]; exact rw_draw _ _ _ _ _
        generalize wr.drewN q1 = wr2 at hwd ⊢
        have HW2 := Lib.hid hwd
        clear hwd
        have c0 := cellN (n + q1) x0 hx0
        have t0 := thawN (n + q1) x0 hx0
        rw [← HW2.out, ← HV0.out] at c0
        rw [← HW2.out] at t0
        have c1 := cellN (n + q1) x1 hx1
        have t1 := thawN (n + q1) x1 hx1
        rw [← HW2.out, ← HV1.out] at c1
        rw [← HW2.out] at t1
        have hne : ¬ x0 = x1 := by have := HE.out; omega
        cases hl2 : ltInt v0 v1
        · go_quiet (first | (go_at_call 47; exact Calls.quiet_of_same (less_any _ _ _)))
          go_wp2_with fail
          refine bodyPost_ret (results_none rfl _ _ _) rfl ?_
          refine ⟨rfl, n + q1 + nq, ?_⟩
          rw [← HO.out, sd_left_stop ltInt c (by have := HE.out; omega) (fun h => by have := HE.out; omega) (by have q := HE.out; rw [show F + r = x0 by omega, show F + (2 * r + 1) = x1 by omega, ← HV0.out, ← HV1.out]; exact hl2)]
          first | exact rw_draw _ _ _ _ _ | (rw [HW2.out]; exact rw_draw _ _ _ _ _)
        · go_quiet (first | (go_at_call 47; exact Calls.quiet_of_same (less_any _ _ _)))
          go_wp2_with fail
          go_region
          all_goals go_wp2_with fail
          refine ⟨⟨ch, n + q1 + (nq + 1), swp c x0 x1, rfl, by have := HE.out; omega, by rw [size_swp]; exact hc, ?_, ?_⟩, by have := HE.out; simp only [intOf, Int.toNat_natCast]; omega⟩
          · first | (rw [HW2.out, HV0.out, HV1.out]; exact rw_swap w _ _ b c x0 x1 (by omega) (by omega)) | (rw [HV0.out, HV1.out]; exact rw_swap w _ _ b c x0 x1 (by omega) (by omega))
          · rw [← HO.out, sd_left_go ltInt c (by have := HE.out; omega) (fun h => by have := HE.out; omega) (by have q := HE.out; rw [show F + r = x0 by omega, show F + (2 * r + 1) = x1 by omega, ← HV0.out, ← HV1.out]; exact hl2), show F + (2 * r + 1) = x1 by have := HE.out; omega, show F + r = x0 by have := HE.out; omega, show 2 * r + 1 = ch by have := HE.out; omega]
end Go.Proofs.Ytoleiiicbnmhpaa
