/- The law RegIn at any fence, also in a round of a range over a function, the class of worlds narrowing as the region turns them: regions that draw their order: what only reads is taken as early as it may come up, in every world of a class R that the region's own turns do not leave; what turns the world comes up alone. No condition. -/
import Derived.OrdersHeld
import Derived.OrdersIn
import Derived.Below
import Derived.MapKept
import Derived.WalkKit
import Derived.OwnWalk
import Derived.Deep.DeepCutAuto
import Derived.Test.YtjjlodeiejobdaaDoorZPlayWrites0
import Derived.Deep.Slices
import Derived.Deep.Fields
import Derived.ChangeSame
import Derived.Maps.AppendAt
import Derived.Laws.AppendOwnNone
import Derived.Test.YtjjlodeiejobdaaDoorRows
import Derived.WalkSpells
import Derived.WalkLawsBesides
import Derived.Lib.Hide
import Derived.Laws.BitsAllLaws
import Derived.Laws.CopyOwn
import Derived.Laws.MakeOwn
import Derived.Lib.AppendStr
import Derived.Laws.IdiomStrings
import Derived.Lib.BufferRead
namespace Go.Proofs.YtjjlodeiejobdaaDoor.RegK
open Go
section
variable {F : Fence} {n : Nat} {P : Program} {ops : Array Oper} {Q : Exit → Act → World → Prop} {md : Region.Mode}
/-- It calls nothing, or what is built in. -/
def noCall (o : Oper) : Bool := match o.op with
  | .call c => (match c.callee with | .builtin _ => true | _ => false)
  | _ => true
theorem about_none {o : Oper} (h : noCall o = true) (w : World) (ρ : Operand → Value) : o.about P w ρ = none := by
  unfold noCall at h
  unfold Oper.about
  cases ho : o.op <;> rw [ho] at h <;> first | rfl | skip
  rename_i c
  simp only at h ⊢
  cases hc : c.callee <;> rw [hc] at h <;> first | (cases h; done) | skip
  simp [resolve, hc, Target.leads]
/-- It defers nothing. -/
def noDefer (o : Oper) : Bool := match o.op with | .defer _ => false | _ => true
theorem sem_of {o : Oper} (h : noDefer o = true) (ρ : Operand → Value) : o.semAt F.round ρ = execOp ρ o := Oper.semAt_eq _ ρ o (by intro c e; simp [noDefer, e] at h)
theorem yif_op {R : World → Prop} {i : Nat} {o : Oper} {v : Value} {a : Act} (hro : ∀ o ∈ ops, noDefer o = true) (hi : ops[i]? = some o) (hy : YieldsIf P ops R o v a) (hc : noCall o = true)
    {K : Act → World → Prop} {w : World} (hR : R w) (h : K (a.put o.dst v) w) : wpOpIn F n P ops Q i K a w := by
  unfold Go.wpOpIn
  simp only [hi]
  have hab : ∀ f, o.about P w a.eval = some f → F.fn f := fun f hf => by rw [about_none hc] at hf; cases hf
  rcases hy with ⟨hw, hv⟩ | ⟨hw, rfl⟩
  · simp only [hw, if_true, Oper.wpIn, sem_of (F := F) (hro o (Array.mem_of_getElem? hi)), hv w hR, Oper.uponIn]; exact ⟨hab, h⟩
  · simp only [hw, Bool.false_eq_true, if_false]; exact ⟨hab, h⟩
theorem putIf {R : World → Prop} {j : Nat} {oi oj : Oper} {v : Value} (hro : ∀ o ∈ ops, noDefer o = true) (hj : ops[j]? = some oj) (hap : oi.apart ops oj = true)
    (hsi : ∀ cs b, oi.op ≠ .select cs b) (hsj : ∀ cs b, oj.op ≠ .select cs b)
    (hQ : ∀ c a w, Q (.panic c) (a.put oi.dst v) w → Q (.panic c) a w) {K : Act → World → Prop} {a : Act} {w : World}
    (hy : YieldsIf P ops R oi v a) (h : wpOpIn F n P ops Q j K (a.put oi.dst v) w) :
    wpOpIn F n P ops Q j (fun a' w' => YieldsIf P ops R oi v a' ∧ K (a'.put oi.dst v) w') a w := by
  obtain ⟨h1, h2, h3⟩ := Oper.apart_spec hap
  have keep : ∀ (a : Act), YieldsIf P ops R oi v a → ∀ u, YieldsIf P ops R oi v (a.put oj.dst u) := fun a hy u =>
    hy.of_same (execOp_put oi hsi a oj.dst u h3) (wanted_put oi a oj.dst u h3)
  have keepD : ∀ d, YieldsIf P ops R oi v { a with defers := d :: a.defers } := fun d => hy.of_same rfl rfl
  have hmj := Array.mem_of_getElem? hj
  unfold wpOpIn at *
  simp only [hj] at *
  rw [wanted_put oj a oi.dst v h1, about_put oj w a oi.dst v h1] at h
  split
  · rename_i hw
    simp only [hw, if_true] at h
    unfold Oper.wpIn at *
    rw [about_put oj w a oi.dst v h1] at h
    refine ⟨h.1, ?_⟩
    have h := h.2
    rw [sem_of (F := F) (hro oj hmj), execOp_put oj hsj a oi.dst v h1] at h
    rw [sem_of (F := F) (hro oj hmj)]
    generalize (execOp a.eval oj).run P w = r at *
    cases r with
    | ok x w' =>
      cases x <;> simp only [Oper.uponIn] at h ⊢
      case value u => exact ⟨keep a hy u, by rw [← Act.put_comm a v u h2]; exact h⟩
      case skip => exact ⟨keep a hy _, by rw [← Act.put_comm a v undef h2]; exact h⟩
      case defer d =>
        refine ⟨keep _ (keepD d) _, ?_⟩
        rw [← Act.put_comm _ v undef h2, ← Act.put_defers]
        exact h
      case enter f args =>
        refine ⟨h.1, CallsIn.mono h.2 fun e w'' he => ?_⟩
        cases e with
        | returned u => exact ⟨keep a hy u, by rw [← Act.put_comm a v u h2]; exact he⟩
        | panicked c => exact hQ _ _ _ he
        | outgrown => exact he
      case row row args => exact ⟨h.1, RowsIn.mono h.2 fun u w'' he => ⟨keep a hy u, by rw [← Act.put_comm a v u h2]; exact he⟩⟩
      case round l f tmps assign body =>
        refine ⟨h.1, RoundIn.mono h.2 fun e w'' he => ?_⟩
        cases e with
        | returned u => exact ⟨keep a hy u, by rw [← Act.put_comm a v u h2]; exact he⟩
        | panicked c => exact hQ _ _ _ he
        | outgrown => exact he
    | halt x w' =>
      cases x <;> simp only [Oper.uponIn] at h ⊢
      case panic u => exact hQ _ _ _ h
  · rename_i hw
    simp only [hw] at h
    exact ⟨h.1, keep a hy _, by rw [← Act.put_comm a v undef h2]; exact h.2⟩
/-- What number j waits for. -/
def onsOf (md : Region.Mode) (ops : Array Oper) (j : Nat) : List Nat := match ops[j]? with
  | some o => (o.after.toList.filter (Region.binds md)).map (·.on)
  | none => []
/-- What those wait for, and so on, each number looked at once, downwards. -/
def back (md : Region.Mode) (ops : Array Oper) : Nat → List Nat → List Nat
  | 0, l => l
  | i + 1, l => back md ops i (if l.contains i then onsOf md ops i ++ l else l)
/-- What a listed operation waits for is listed. -/
def Closed (md : Region.Mode) (ops : Array Oper) (listed : Array Bool) : Prop := ∀ j, listed.getD j false = true → ∀ e ∈ onsOf md ops j, listed.getD e false = true
theorem back_listed {listed : Array Bool} (h : Closed md ops listed) : ∀ (m : Nat) (l : List Nat), (∀ j ∈ l, listed.getD j false = true) → ∀ j ∈ back md ops m l, listed.getD j false = true
  | 0, _, hl, j, hj => hl j hj
  | m + 1, l, hl, j, hj => back_listed h m _ (fun k hk => by
      split at hk
      · rename_i hc
        rcases List.mem_append.1 hk with hk | hk
        · exact h m (hl m (by simpa using hc)) k hk
        · exact hl k hk
      · exact hl k hk) j hj
theorem ready_ons {listed : Array Bool} {j : Nat} (h : j ∈ Region.ready md ops listed) : ∀ e ∈ onsOf md ops j, listed.getD e false = true := by
  obtain ⟨_, o, ho, hall⟩ := mem_ready.1 h
  intro e he
  simp only [onsOf, ho, List.mem_map, List.mem_filter] at he
  obtain ⟨q, ⟨h1, h2⟩, rfl⟩ := he
  exact hall q (by simpa using h1) h2
theorem Closed.set {listed : Array Bool} {i : Nat} (h : Closed md ops listed) (hi : i ∈ Region.ready md ops listed) : Closed md ops (listed.setIfInBounds i true) := by
  intro j hj e he
  by_cases hij : i = j
  · subst hij; exact getD_set_true (ready_ons hi e he)
  · rw [getD_set_ne false hij] at hj
    exact getD_set_true (h j hj e he)
theorem Closed.none (n : Nat) : Closed md ops (Array.replicate n false) := by
  intro j hj
  have : (Array.replicate n false).getD j false = false := by
    simp only [Array.getD_eq_getD_getElem?, Array.getElem?_replicate]
    split <;> rfl
  rw [this] at hj
  cases hj
theorem bar_not {bar : Nat → Bool} {listed : Array Bool} {i j : Nat} (h : Closed md ops listed) (hj : j ∈ Region.ready md ops listed) (hi : i ∈ Region.ready md ops listed)
    (hb : bar j = true → i ∈ back md ops ops.size (onsOf md ops j)) : bar j = false := by
  rw [Bool.eq_false_iff]
  intro hbj
  obtain ⟨h0, o, ho, _⟩ := mem_ready.1 hi
  have h4 := back_listed h _ _ (ready_ons hj) i (hb hbj)
  rcases Nat.lt_or_ge i listed.size with h' | h'
  · simp [h'] at h0 h4; rw [h0] at h4; cases h4
  · simp [Array.getElem?_eq_none h'] at h4
/-- Behind one operation: the world lies in the class still (behind an operation that waits for all before it: in any class). -/
def Into (b : Bool) (R : World → Prop) (K : (World → Prop) → Act → World → Prop) (a : Act) (w : World) : Prop := ∃ R' : World → Prop, R' w ∧ (b = true ∨ ∀ x, R' x → R x) ∧ K R' a w
theorem yif_mono {P : Program} {ops : Array Oper} {R R' : World → Prop} {o : Oper} {v : Value} {a : Act} (h : YieldsIf P ops R o v a) (hs : ∀ x, R' x → R x) : YieldsIf P ops R' o v a := by
  rcases h with ⟨h1, h2⟩ | h
  · exact .inl ⟨h1, fun x hx => h2 x (hs x hx)⟩
  · exact .inr h
def anyR (bar : Nat → Bool) (F : Fence) (n : Nat) (P : Program) (md : Region.Mode) (ops : Array Oper) (Q : Exit → Act → World → Prop) : Nat → Array Bool → (World → Prop) → Act → World → Prop
  | 0, listed, _, a, w => Region.ready md ops listed = [] ∧ Q .normal a w
  | fuel + 1, listed, R, a, w => (Region.ready md ops listed = [] → Q .normal a w) ∧
      ∀ i ∈ Region.ready md ops listed, wpOpIn F n P ops Q i (Into (bar i) R (fun R' a' w' => anyR bar F n P md ops Q fuel (listed.setIfInBounds i true) R' a' w')) a w
theorem any_of {bar : Nat → Bool} : ∀ (fuel : Nat) (listed : Array Bool) (R : World → Prop) (a : Act) (w : World), anyR bar F n P md ops Q fuel listed R a w → wpAnyIn F n P md ops Q fuel listed a w
  | 0, _, _, _, _, h => h
  | fuel + 1, _, _, _, _, h => ⟨h.1, fun i hi => wpOpIn_mono (fun a' w' ⟨R', _, _, h3⟩ => any_of fuel _ R' a' w' h3) (h.2 i hi)⟩
theorem first {bar : Nat → Bool} {i : Nat} {oi : Oper} {v : Value} (hro : ∀ o ∈ ops, noDefer o = true) (hi : ops[i]? = some oi) (hc : noCall oi = true) (hsel : ∀ (j : Nat) (o : Oper) cs b, ops[j]? = some o → o.op ≠ .select cs b)
    (hQ : ∀ c a w, Q (.panic c) (a.put oi.dst v) w → Q (.panic c) a w) :
    ∀ (fuel : Nat) (listed : Array Bool) (R : World → Prop) (a : Act) (w : World),
      (∀ j oj, ops[j]? = some oj → j ≠ i → listed.getD j true = false → (∀ e ∈ oj.after, Region.binds md e = true → e.on ≠ i) → oi.apart ops oj = true) →
      (∀ j, listed.getD j true = false → j ≠ i → bar j = true → i ∈ back md ops ops.size (onsOf md ops j)) → Closed md ops listed → i ∈ Region.ready md ops listed → R w → YieldsIf P ops R oi v a →
      anyR bar F n P md ops Q fuel (listed.setIfInBounds i true) R (a.put oi.dst v) w → anyR bar F n P md ops Q (fuel + 1) listed R a w := by
  intro fuel
  induction fuel with
  | zero =>
    intro listed R a w _ _ _ hr hR hy H
    refine ⟨fun h => (by rw [h] at hr; cases hr), fun j hj => ?_⟩
    by_cases hji : j = i
    · subst hji; exact yif_op hro hi hy hc hR ⟨R, hR, .inr fun _ h => h, H⟩
    · have := ready_mono hj hji
      rw [H.1] at this
      cases this
  | succ fuel ih =>
    intro listed R a w hfree hbar hcl hr hR hy H
    refine ⟨fun h => (by rw [h] at hr; cases hr), fun j hj => ?_⟩
    by_cases hji : j = i
    · subst hji; exact yif_op hro hi hy hc hR ⟨R, hR, .inr fun _ h => h, H⟩
    · have h1 := H.2 j (ready_mono hj hji)
      obtain ⟨hjun, oj, hoj, hall⟩ := mem_ready.1 hj
      have hnot : ∀ e ∈ oj.after, Region.binds md e = true → e.on ≠ i := fun e he hb heq => by
        have h1 := hall e he hb
        have h0 := (mem_ready.1 hr).1
        rw [heq] at h1
        rcases Nat.lt_or_ge i listed.size with h' | h'
        · simp [h'] at h0 h1; rw [h0] at h1; cases h1
        · simp [Array.getElem?_eq_none h'] at h1
      have hb : bar j = false := bar_not hcl hj hr (hbar j hjun hji)
      have h2 := putIf hro hoj (hfree j oj hoj hji hjun hnot) (fun cs b => hsel i oi cs b hi) (fun cs b => hsel j oj cs b hoj) hQ hy h1
      have hfree' : ∀ k ok, ops[k]? = some ok → k ≠ i → (listed.setIfInBounds j true).getD k true = false →
          (∀ e ∈ ok.after, Region.binds md e = true → e.on ≠ i) → oi.apart ops ok = true := fun k ok hk hki hun hno => by
        refine hfree k ok hk hki ?_ hno
        by_cases hjk : j = k
        · subst hjk; exact hjun
        · rw [getD_set_ne true hjk] at hun; exact hun
      have hbar' : ∀ k, (listed.setIfInBounds j true).getD k true = false → k ≠ i → bar k = true → i ∈ back md ops ops.size (onsOf md ops k) := fun k hun hki hbk => by
        refine hbar k ?_ hki hbk
        by_cases hjk : j = k
        · subst hjk; exact hjun
        · rw [getD_set_ne true hjk] at hun; exact hun
      refine wpOpIn_mono (fun a' w' ⟨hy', R', hR', hor, hK⟩ => ?_) h2
      have hsub := hor.resolve_left (by simp [hb])
      refine ⟨R', hR', .inr hsub, ih (listed.setIfInBounds j true) R' a' w' hfree' hbar' (hcl.set hj) (ready_mono hr (Ne.symm hji)) hR' (yif_mono hy' hsub) ?_⟩
      rw [Array.setIfInBounds_comm _ _ hji]
      exact hK
theorem firstP {bar : Nat → Bool} {i : Nat} {oi : Oper} {v : Value} (hro : ∀ o ∈ ops, noDefer o = true) (hi : ops[i]? = some oi) (hc : noCall oi = true) (hsel : ∀ (j : Nat) (o : Oper) cs b, ops[j]? = some o → o.op ≠ .select cs b)
    (hQ : ∀ c a w, Q (.panic c) (a.put oi.dst v) w → Q (.panic c) a w) :
    ∀ (fuel : Nat) (listed : Array Bool) (R : World → Prop) (a : Act) (w : World),
      (∀ j oj, ops[j]? = some oj → j ≠ i → listed.getD j true = false → (∀ e ∈ oj.after, Region.binds md e = true → e.on ≠ i) → oi.apart ops oj = true) →
      i ∈ Region.ready md ops listed → R w → YieldsIf P ops (fun _ => True) oi v a →
      anyR bar F n P md ops Q fuel (listed.setIfInBounds i true) R (a.put oi.dst v) w → anyR bar F n P md ops Q (fuel + 1) listed R a w := by
  intro fuel
  induction fuel with
  | zero =>
    intro listed R a w _ hr hR hy H
    refine ⟨fun h => (by rw [h] at hr; cases hr), fun j hj => ?_⟩
    by_cases hji : j = i
    · subst hji; exact yif_op hro hi hy hc (R := fun _ => True) trivial ⟨R, hR, .inr fun _ h => h, H⟩
    · have := ready_mono hj hji
      rw [H.1] at this
      cases this
  | succ fuel ih =>
    intro listed R a w hfree hr hR hy H
    refine ⟨fun h => (by rw [h] at hr; cases hr), fun j hj => ?_⟩
    by_cases hji : j = i
    · subst hji; exact yif_op hro hi hy hc (R := fun _ => True) trivial ⟨R, hR, .inr fun _ h => h, H⟩
    · have h1 := H.2 j (ready_mono hj hji)
      obtain ⟨hjun, oj, hoj, hall⟩ := mem_ready.1 hj
      have hnot : ∀ e ∈ oj.after, Region.binds md e = true → e.on ≠ i := fun e he hb heq => by
        have h1 := hall e he hb
        have h0 := (mem_ready.1 hr).1
        rw [heq] at h1
        rcases Nat.lt_or_ge i listed.size with h' | h'
        · simp [h'] at h0 h1; rw [h0] at h1; cases h1
        · simp [Array.getElem?_eq_none h'] at h1
      have h2 := putIf hro hoj (hfree j oj hoj hji hjun hnot) (fun cs b => hsel i oi cs b hi) (fun cs b => hsel j oj cs b hoj) hQ hy h1
      refine wpOpIn_mono (fun a' w' ⟨hy', R', hR', hor, hK⟩ => ?_) h2
      refine ⟨R', hR', hor, ih (listed.setIfInBounds j true) R' a' w' (fun k ok hk hki hun hno => hfree k ok hk hki (by
        by_cases hjk : j = k
        · subst hjk; exact hjun
        · rw [getD_set_ne true hjk] at hun; exact hun) hno) (ready_mono hr (Ne.symm hji)) hR' hy' ?_⟩
      rw [Array.setIfInBounds_comm _ _ hji]
      exact hK
/-- The walk in the order that is handed in: 0: the operation only reads (in every world of R), and calls nothing; 1: it may turn the world, within R; 2: it looks at no world; else: it may turn the world anyhow, and waits for all that came before it. -/
def can (F : Fence) (n : Nat) (P : Program) (ops : Array Oper) (Q : Exit → Act → World → Prop) : List (Oper × Nat) → (World → Prop) → Act → World → Prop
  | [], _, a, w => Q .normal a w
  | (o, 0) :: r, R, a, w =>
    if Region.wanted o (yielded ops a.tmps) then ∃ v, (∀ x, R x → (execOp a.eval o).run P x = .ok (.value v) x) ∧ can F n P ops Q r R (a.put o.dst v) w
    else can F n P ops Q r R (a.put o.dst undef) w
  | (o, 1) :: r, R, a, w =>
    if Region.wanted o (yielded ops a.tmps) then o.wpIn F n P a w (fun a' w' => ∃ R' : World → Prop, (∀ x, R' x → R x) ∧ R' w' ∧ can F n P ops Q r R' a' w') Q
    else (∀ f, o.about P w a.eval = some f → F.fn f) ∧ can F n P ops Q r R (a.put o.dst undef) w
  | (o, 2) :: r, R, a, w =>
    if Region.wanted o (yielded ops a.tmps) then ∃ v, (∀ x, (execOp a.eval o).run P x = .ok (.value v) x) ∧ can F n P ops Q r R (a.put o.dst v) w
    else can F n P ops Q r R (a.put o.dst undef) w
  | (o, _ + 3) :: r, R, a, w =>
    if Region.wanted o (yielded ops a.tmps) then o.wpIn F n P a w (fun a' w' => ∃ R' : World → Prop, R' w' ∧ can F n P ops Q r R' a' w') Q
    else (∀ f, o.about P w a.eval = some f → F.fn f) ∧ can F n P ops Q r R (a.put o.dst undef) w
def canB (bar : Nat → Bool) (md : Region.Mode) (ops : Array Oper) : List (Nat × Nat) → Array Bool → Bool
  | [], listed => (Region.ready md ops listed).isEmpty
  | (k, 0) :: r, listed => (Region.ready md ops listed).contains k && Region.free md ops listed k && (match ops[k]? with | some o => noCall o | none => false) &&
      ((List.range ops.size).all fun j => listed.getD j true || j == k || !bar j || (back md ops ops.size (onsOf md ops j)).contains k) && canB bar md ops r (listed.setIfInBounds k true)
  | (k, 1) :: r, listed => Region.ready md ops listed == [k] && !bar k && canB bar md ops r (listed.setIfInBounds k true)
  | (k, 2) :: r, listed => (Region.ready md ops listed).contains k && Region.free md ops listed k && (match ops[k]? with | some o => noCall o | none => false) && canB bar md ops r (listed.setIfInBounds k true)
  | (k, _ + 3) :: r, listed => Region.ready md ops listed == [k] && bar k && canB bar md ops r (listed.setIfInBounds k true)
def pick (l : List Oper) : List (Nat × Nat) → List (Oper × Nat)
  | [] => []
  | (k, e) :: r => match l[k]? with | some o => (o, e) :: pick l r | none => []
theorem bar_spec {bar : Nat → Bool} {listed : Array Bool} {k : Nat} (h : ((List.range ops.size).all fun j => listed.getD j true || j == k || !bar j || (back md ops ops.size (onsOf md ops j)).contains k) = true) (hsz : listed.size ≤ ops.size) :
    ∀ j, listed.getD j true = false → j ≠ k → bar j = true → k ∈ back md ops ops.size (onsOf md ops j) := by
  intro j h1 h2 h3
  have hj : j < ops.size := by
    rcases Nat.lt_or_ge j listed.size with h' | h'
    · omega
    · simp [Array.getElem?_eq_none h'] at h1
  have := List.all_eq_true.1 h j (List.mem_range.2 hj)
  rw [h1, h3] at this
  simpa [h2] using this
theorem any_can {bar : Nat → Bool} (hro : ∀ o ∈ ops, noDefer o = true) (hs : Region.noSelect ops = true) (hQ : ∀ c a d v w, Q (.panic c) (Act.put a d v) w → Q (.panic c) a w) : ∀ (r : List (Nat × Nat)) (listed : Array Bool) (R : World → Prop) (a : Act) (w : World),
    listed.size = ops.size → Closed md ops listed → canB bar md ops r listed = true → r.all (fun p => decide (p.1 < ops.size)) = true → R w → can F n P ops Q (pick ops.toList r) R a w → anyR bar F n P md ops Q r.length listed R a w
  | [], _, _, _, _, _, _, hB, _, _, h => ⟨by simpa [canB] using hB, h⟩
  | (k, 0) :: r, listed, R, a, w, hsz, hcl, hB, hl, hR, h => by
    simp only [List.all_cons, Bool.and_eq_true, decide_eq_true_eq] at hl
    obtain ⟨hk, hl'⟩ := hl
    have h0 : ops[k]? = some ops[k] := Array.getElem?_eq_getElem hk
    have h0' : ops.toList[k]? = some ops[k] := by simp [hk]
    simp only [canB, Bool.and_eq_true, h0] at hB
    obtain ⟨⟨⟨⟨hr, hf⟩, hc⟩, hbar⟩, hB'⟩ := hB
    have hsz' : (listed.setIfInBounds k true).size = ops.size := by simpa using hsz
    have hcl' := hcl.set (i := k) (by simpa using hr)
    have hbs := bar_spec hbar (Nat.le_of_eq hsz)
    simp only [pick, h0', can] at h
    by_cases hw : Region.wanted ops[k] (yielded ops a.tmps) = true
    · simp only [hw, if_true] at h
      obtain ⟨v, hv, hK⟩ := h
      exact first hro h0 hc (Region.noSelect_spec hs) (fun c a w => hQ c a _ _ w) r.length listed R a w (Region.free_spec h0 hf) hbs hcl (by simpa using hr) hR (.inl ⟨hw, hv⟩) (any_can hro hs hQ r _ R _ w hsz' hcl' hB' hl' hR hK)
    · simp only [hw] at h
      exact first hro h0 hc (Region.noSelect_spec hs) (fun c a w => hQ c a _ _ w) r.length listed R a w (Region.free_spec h0 hf) hbs hcl (by simpa using hr) hR (.inr ⟨by simpa using hw, rfl⟩) (any_can hro hs hQ r _ R _ w hsz' hcl' hB' hl' hR h)
  | (k, 1) :: r, listed, R, a, w, hsz, hcl, hB, hl, hR, h => by
    simp only [canB, Bool.and_eq_true, beq_iff_eq, Bool.not_eq_true'] at hB
    obtain ⟨⟨hr, hbk⟩, hB'⟩ := hB
    simp only [List.all_cons, Bool.and_eq_true, decide_eq_true_eq] at hl
    obtain ⟨hk, hl'⟩ := hl
    have h0 : ops[k]? = some ops[k] := Array.getElem?_eq_getElem hk
    have h0' : ops.toList[k]? = some ops[k] := by simp [hk]
    have hsz' : (listed.setIfInBounds k true).size = ops.size := by simpa using hsz
    have hcl' := hcl.set (i := k) (by rw [hr]; simp)
    simp only [pick, h0', can] at h
    refine ⟨fun h => (by rw [hr] at h; cases h), fun j hj => ?_⟩
    rw [hr] at hj
    obtain rfl : j = k := by simpa using hj
    unfold wpOpIn
    simp only [h0]
    by_cases hw : Region.wanted ops[j] (yielded ops a.tmps) = true
    · simp only [hw, if_true] at h ⊢
      exact Oper.wpIn_mono (fun a' w' ⟨R', g0, g1, g2⟩ => ⟨R', g1, .inr g0, any_can hro hs hQ r _ R' a' w' hsz' hcl' hB' hl' g1 g2⟩) h
    · simp only [hw] at h ⊢
      exact ⟨h.1, R, hR, .inr fun _ h => h, any_can hro hs hQ r _ R _ w hsz' hcl' hB' hl' hR h.2⟩
  | (k, 2) :: r, listed, R, a, w, hsz, hcl, hB, hl, hR, h => by
    simp only [List.all_cons, Bool.and_eq_true, decide_eq_true_eq] at hl
    obtain ⟨hk, hl'⟩ := hl
    have h0 : ops[k]? = some ops[k] := Array.getElem?_eq_getElem hk
    have h0' : ops.toList[k]? = some ops[k] := by simp [hk]
    simp only [canB, Bool.and_eq_true, h0] at hB
    obtain ⟨⟨⟨hr, hf⟩, hc⟩, hB'⟩ := hB
    have hsz' : (listed.setIfInBounds k true).size = ops.size := by simpa using hsz
    have hcl' := hcl.set (i := k) (by simpa using hr)
    simp only [pick, h0', can] at h
    by_cases hw : Region.wanted ops[k] (yielded ops a.tmps) = true
    · simp only [hw, if_true] at h
      obtain ⟨v, hv, hK⟩ := h
      exact firstP hro h0 hc (Region.noSelect_spec hs) (fun c a w => hQ c a _ _ w) r.length listed R a w (Region.free_spec h0 hf) (by simpa using hr) hR (.inl ⟨hw, fun x _ => hv x⟩) (any_can hro hs hQ r _ R _ w hsz' hcl' hB' hl' hR hK)
    · simp only [hw] at h
      exact firstP hro h0 hc (Region.noSelect_spec hs) (fun c a w => hQ c a _ _ w) r.length listed R a w (Region.free_spec h0 hf) (by simpa using hr) hR (.inr ⟨by simpa using hw, rfl⟩) (any_can hro hs hQ r _ R _ w hsz' hcl' hB' hl' hR h)
  | (k, m + 3) :: r, listed, R, a, w, hsz, hcl, hB, hl, hR, h => by
    simp only [canB, Bool.and_eq_true, beq_iff_eq] at hB
    obtain ⟨⟨hr, hbk⟩, hB'⟩ := hB
    simp only [List.all_cons, Bool.and_eq_true, decide_eq_true_eq] at hl
    obtain ⟨hk, hl'⟩ := hl
    have h0 : ops[k]? = some ops[k] := Array.getElem?_eq_getElem hk
    have h0' : ops.toList[k]? = some ops[k] := by simp [hk]
    have hsz' : (listed.setIfInBounds k true).size = ops.size := by simpa using hsz
    have hcl' := hcl.set (i := k) (by rw [hr]; simp)
    simp only [pick, h0', can] at h
    refine ⟨fun h => (by rw [hr] at h; cases h), fun j hj => ?_⟩
    rw [hr] at hj
    obtain rfl : j = k := by simpa using hj
    unfold wpOpIn
    simp only [h0]
    by_cases hw : Region.wanted ops[j] (yielded ops a.tmps) = true
    · simp only [hw, if_true] at h ⊢
      exact Oper.wpIn_mono (fun a' w' ⟨R', g1, g2⟩ => ⟨R', g1, .inl hbk, any_can hro hs hQ r _ R' a' w' hsz' hcl' hB' hl' g1 g2⟩) h
    · simp only [hw] at h ⊢
      exact ⟨h.1, R, hR, .inr fun _ h => h, any_can hro hs hQ r _ R _ w hsz' hcl' hB' hl' hR h.2⟩
/-- The walk, behind a name that nothing opens. -/
structure Can (F : Fence) (n : Nat) (P : Program) (ops : Array Oper) (Q : Exit → Act → World → Prop) (l : List (Oper × Nat)) (R : World → Prop) (a : Act) (w : World) : Prop where
  out : can F n P ops Q l R a w
/-- Which operations have all that comes before them in the order that is handed in behind them for good. -/
def barOf (σ : List (Nat × Nat)) (j : Nat) : Bool := σ.any fun p => p.1 == j && decide (3 ≤ p.2)
/-- **ONE WALK, IN THE ORDER THAT IS HANDED IN, SERVES EVERY ORDER.** -/
theorem wpIn_region_can (R : World → Prop) (σ : List (Nat × Nat)) {id : Nat} {a : Act} {w : World} {l : List Oper} (hro : l.all noDefer = true) (hm : P.follows .mixedOrders = true)
    (hB : (Region.noSelect l.toArray && canB (barOf σ) .any l.toArray σ (Array.replicate l.length false) && σ.all (fun p => decide (p.1 < l.length)) && (σ.length == l.length)) = true)
    (hQ : ∀ c a d v w, Q (.panic c) (Act.put a d v) w → Q (.panic c) a w)
    (hR : R { w with drawn := w.drawn + 1 })
    (h : Can F n P l.toArray Q (pick l σ) R a { w with drawn := w.drawn + 1 }) : (Code.region id l.toArray true).wpIn F n P Q a w := by
  simp only [Bool.and_eq_true, beq_iff_eq] at hB
  obtain ⟨⟨⟨h1, h2⟩, h3⟩, h4⟩ := hB
  refine wpIn_region_any hm (any_of (bar := barOf σ) _ _ R _ _ ?_)
  have := any_can (bar := barOf σ) (F := F) (n := n) (P := P) (ops := l.toArray) (md := .any) (Q := Q) (fun o ho => List.all_eq_true.1 hro o (by simpa using ho)) h1 hQ σ (Array.replicate l.length false) R a _ (by simp) (Closed.none _) h2 (by simpa using h3) hR (by simpa using h.out)
  simpa [h4] using this
/-- An operation that only reads. -/
theorem can_reads {R : World → Prop} {a : Act} {w : World} {o : Oper} {r : List (Oper × Nat)}
    (h : ∀ K : Act → Prop, (∀ a, Can F n P ops Q r R a w → K a) → if Region.wanted o (yielded ops a.tmps) then ∃ v, (∀ x, R x → (execOp a.eval o).run P x = .ok (.value v) x) ∧ K (a.put o.dst v) else K (a.put o.dst undef)) :
    Can F n P ops Q ((o, 0) :: r) R a w := ⟨h _ (fun _ h => h.out)⟩
/-- An operation that may turn the world, within R; the class may narrow. -/
theorem can_narrows (hfn : ∀ f, F.fn f) {R : World → Prop} {a : Act} {w : World} {o : Oper} {r : List (Oper × Nat)}
    (h : ∀ (K : Act → World → Prop) (K0 : Act → Prop), (∀ (R' : World → Prop) a w, (∀ x, R' x → R x) → R' w → Can F n P ops Q r R' a w → K a w) → (∀ a, Can F n P ops Q r R a w → K0 a) →
      if Region.wanted o (yielded ops a.tmps) then o.wpIn F n P a w K Q else K0 (a.put o.dst undef)) :
    Can F n P ops Q ((o, 1) :: r) R a w := by
  have h' := h (fun a' w' => ∃ R' : World → Prop, (∀ x, R' x → R x) ∧ R' w' ∧ can F n P ops Q r R' a' w') (fun a => can F n P ops Q r R a w) (fun R' _ _ h0 h1 h2 => ⟨R', h0, h1, h2.out⟩) (fun _ h => h.out)
  refine ⟨?_⟩
  simp only [can]
  split
  · rename_i hw; rw [if_pos hw] at h'; exact h'
  · rename_i hw; rw [if_neg hw] at h'; exact ⟨fun f _ => hfn f, h'⟩
/-- An operation that may turn the world, within R. -/
theorem can_turns (hfn : ∀ f, F.fn f) {R : World → Prop} {a : Act} {w : World} {o : Oper} {r : List (Oper × Nat)}
    (h : ∀ (K : Act → World → Prop) (K0 : Act → Prop), (∀ a w, R w → Can F n P ops Q r R a w → K a w) → (∀ a, Can F n P ops Q r R a w → K0 a) →
      if Region.wanted o (yielded ops a.tmps) then o.wpIn F n P a w K Q else K0 (a.put o.dst undef)) :
    Can F n P ops Q ((o, 1) :: r) R a w := can_narrows hfn (fun K K0 hK hK0 => h K K0 (fun a w h1 h2 => hK R a w (fun _ h => h) h1 h2) hK0)
/-- An operation that may turn the world anyhow, and waits for all that came before it (at the wide fence). -/
theorem can_frees (hfn : ∀ f, F.fn f) {R : World → Prop} {a : Act} {w : World} {o : Oper} {r : List (Oper × Nat)}
    (h : ∀ (K : Act → World → Prop) (K0 : Act → Prop), (∀ (R' : World → Prop) a w, R' w → Can F n P ops Q r R' a w → K a w) → (∀ a, Can F n P ops Q r R a w → K0 a) →
      if Region.wanted o (yielded ops a.tmps) then o.wpIn F n P a w K Q else K0 (a.put o.dst undef)) :
    Can F n P ops Q ((o, 3) :: r) R a w := by
  have h' := h (fun a' w' => ∃ R' : World → Prop, R' w' ∧ can F n P ops Q r R' a' w') (fun a => can F n P ops Q r R a w) (fun R' _ _ h1 h2 => ⟨R', h1, h2.out⟩) (fun _ h => h.out)
  refine ⟨?_⟩
  simp only [can]
  split
  · rename_i hw; rw [if_pos hw] at h'; exact h'
  · rename_i hw; rw [if_neg hw] at h'; exact ⟨fun f _ => hfn f, h'⟩
/-- An operation's law without a fence serves at the wide one. -/
theorem op_wide {o : Oper} (hd : noDefer o = true) {K : Act → World → Prop} {a : Act} {w : World} (h : o.wp P a w K Q) : o.wpIn Fence.wide n P a w K Q := by
  refine ⟨fun _ _ => trivial, ?_⟩
  rw [sem_of (F := Fence.wide) hd]
  unfold Oper.wp at h
  generalize (execOp a.eval o).run P w = r at *
  cases r with
  | ok x w' =>
    cases x with
    | value v => exact h
    | skip => exact h
    | defer d => exact h
    | enter f args => exact ⟨fun e => (by cases e), callsIn_wide.2 h⟩
    | row row args => exact ⟨fun e => (by cases e), fun c cs _ => let ⟨v, w'', r, s⟩ := h c cs; ⟨v, w'', r, stepsIn_wide.2 s⟩⟩
    | _ => exact h.elim
  | halt x w' => cases x <;> exact h
theorem can_nil {R : World → Prop} {a : Act} {w : World} (h : Q .normal a w) : Can F n P ops Q [] R a w := ⟨h⟩
end
end Go.Proofs.YtjjlodeiejobdaaDoor.RegK
namespace Go.Proofs.YtjjlodeiejobdaaDoor.RegL
open Go Go.RowKit RegK
/-- An operation that lays a variable: its number, its slot, what it lays. -/
structure Fl where
  i : Nat
  d : Nat
  z : Obj
section
variable {F : Fence} {n : Nat} {P : Program} {ops : Array Oper} {Q : Exit → Act → World → Prop} {md : Region.Mode}
def Mono (C : World → Prop) : Prop := ∀ x y, C x → Below x.heap.size x y → C y
def ptr (g : Nat) : Value := .pointer (some ⟨g, 0, none⟩)
/-- The frame with the variables that have been laid. -/
def putS (g : Nat → Nat) (S : Nat → Bool) (a : Act) : List Fl → Act
  | [] => a
  | p :: r => if S p.i = true then (putS g S a r).put (some p.d) (ptr (g p.i)) else putS g S a r
/-- What memory holds of the variables that have been laid. -/
def Facts (B : Nat) (fs : List Fl) (g : Nat → Nat) (S : Nat → Bool) (x : World) : Prop :=
  (∀ p ∈ fs, S p.i = true → x.heap[g p.i]? = some p.z ∧ B ≤ g p.i) ∧ ∀ p ∈ fs, ∀ q ∈ fs, S p.i = true → S q.i = true → p.i ≠ q.i → g p.i ≠ g q.i
theorem Facts.below {B : Nat} {fs : List Fl} {g : Nat → Nat} {S : Nat → Bool} {x y : World} (h : Facts B fs g S x) (hb : Below x.heap.size x y) : Facts B fs g S y :=
  ⟨fun p hp hs => by obtain ⟨h1, h2⟩ := h.1 p hp hs; exact ⟨(hb.block _ (Array.getElem?_eq_some_iff.1 h1).1).trans h1, h2⟩, h.2⟩
/-- What the law asks of the numbers that lay. -/
structure Lays (P : Program) (ops : Array Oper) (md : Region.Mode) (bar : Nat → Bool) (fs : List Fl) : Prop where
  pw : fs.Pairwise (fun x y => x.i ≠ y.i ∧ x.d ≠ y.d)
  op : ∀ p ∈ fs, ∃ o, ops[p.i]? = some o ∧ o.dst = some p.d ∧ o.guard = none ∧ noCall o = true ∧ onsOf md ops p.i = [] ∧ bar p.i = false ∧
    ∀ (ρ : Operand → Value) (x : World), (execOp ρ o).run P x = .ok (.value (ptr x.heap.size)) (x.alloc p.z)
  apart : ∀ p ∈ fs, ∀ j o, ops[j]? = some o → bar j = false → (∀ q ∈ fs, j ≠ q.i) → p.d ∉ o.looksAt ops ∧ o.dst ≠ some p.d
  waits : ∀ j, bar j = true → ∀ p ∈ fs, p.i ∈ back md ops ops.size (onsOf md ops j)
/-- The walk, where no world is at hand: 0: reads; 1: adds to memory; 2: looks at no world; else: the last ones, which wait for all. -/
def canC (B : Nat) (fs : List Fl) (F : Fence) (n : Nat) (P : Program) (ops : Array Oper) (Q : Exit → Act → World → Prop) : List (Oper × Nat) → (World → Prop) → Act → Prop
  | [], C, a => ∀ g x, Facts B fs g (fun _ => true) x → C x → Q .normal (putS g (fun _ => true) a fs) x
  | (o, 0) :: r, C, a =>
    if Region.wanted o (yielded ops a.tmps) then ∃ v, (∀ x, C x → (execOp a.eval o).run P x = .ok (.value v) x) ∧ canC B fs F n P ops Q r C (a.put o.dst v)
    else canC B fs F n P ops Q r C (a.put o.dst undef)
  | (o, 1) :: r, C, a =>
    if Region.wanted o (yielded ops a.tmps) then ∀ x, C x → o.wpIn F n P a x (fun a' x' => Below x.heap.size x x' ∧ ∃ C' : World → Prop, (∀ y, C' y → C y) ∧ Mono C' ∧ C' x' ∧ canC B fs F n P ops Q r C' a') Q
    else (∀ x, C x → ∀ f, o.about P x a.eval = some f → F.fn f) ∧ canC B fs F n P ops Q r C (a.put o.dst undef)
  | (o, 2) :: r, C, a =>
    if Region.wanted o (yielded ops a.tmps) then ∃ v, (∀ x, (execOp a.eval o).run P x = .ok (.value v) x) ∧ canC B fs F n P ops Q r C (a.put o.dst v)
    else canC B fs F n P ops Q r C (a.put o.dst undef)
  | (o, e + 3) :: r, C, a => ∀ g x, Facts B fs g (fun _ => true) x → C x → can F n P ops Q ((o, e + 3) :: r) (fun _ => True) (putS g (fun _ => true) a fs) x
/-- The walk, behind a name that nothing opens. -/
structure CanC (B : Nat) (fs : List Fl) (F : Fence) (n : Nat) (P : Program) (ops : Array Oper) (Q : Exit → Act → World → Prop) (l : List (Oper × Nat)) (C : World → Prop) (a : Act) : Prop where
  out : canC B fs F n P ops Q l C a
/-- An operation that only reads. -/
theorem reads {B : Nat} {fs : List Fl} {C : World → Prop} {a : Act} {o : Oper} {r : List (Oper × Nat)}
    (h : ∀ K : Act → Prop, (∀ a, CanC B fs F n P ops Q r C a → K a) → if Region.wanted o (yielded ops a.tmps) then ∃ v, (∀ x, C x → (execOp a.eval o).run P x = .ok (.value v) x) ∧ K (a.put o.dst v) else K (a.put o.dst undef)) :
    CanC B fs F n P ops Q ((o, 0) :: r) C a := ⟨h _ (fun _ h => h.out)⟩
/-- From the first of the last ones on: a world at hand. -/
theorem last {B : Nat} {fs : List Fl} {C : World → Prop} {a : Act} {o : Oper} {e : Nat} {r : List (Oper × Nat)}
    (h : ∀ g x, Facts B fs g (fun _ => true) x → C x → RegK.Can F n P ops Q ((o, e + 3) :: r) (fun _ => True) (putS g (fun _ => true) a fs) x) : CanC B fs F n P ops Q ((o, e + 3) :: r) C a :=
  ⟨fun g x hF hx => (h g x hF hx).out⟩
theorem nil {B : Nat} {fs : List Fl} {C : World → Prop} {a : Act} (h : ∀ g x, Facts B fs g (fun _ => true) x → C x → Q .normal (putS g (fun _ => true) a fs) x) : CanC B fs F n P ops Q [] C a := ⟨h⟩
end
end Go.Proofs.YtjjlodeiejobdaaDoor.RegL
namespace Go.Proofs.YtjjlodeiejobdaaDoor
open Go.RowKit
section
variable {w w' : World} {b b' i : Nat} {v x : Value} {t : TypeId}
theorem below_setV {w0 : World} {n : Nat} (h : Below n w0 w) (hb : n ≤ b) : Below n w0 (w.setCell ⟨b, i, none⟩ x) :=
  ⟨h.os, h.tape, h.output, by simpa [World.setCell] using h.size, fun q hq => (Below.heap_setCell _ _ _ _ (by show q ≠ b; omega)).trans (h.block q hq)⟩
end
end Go.Proofs.YtjjlodeiejobdaaDoor
namespace Go.Proofs.YtjjlodeiejobdaaDoor
open Go.ChangeShapes Go.WideShapes Go.Deep Go.RowKit
/-- The slice's elements are z; element i lies in k cells, which hold 'enc' of it. -/
structure SliceAt {α : Type} (k : Nat) (enc : α → List Value) (w : World) (a : Option Addr) (len : Nat) (z : List α) : Prop where
  hlen : z.length = len
  hmax : len ≤ maxLen
  cells : ∀ (i : Nat) (x : α), z[i]? = some x → ∃ b o, a = some ⟨b, o, none⟩ ∧ b < w.heap.size ∧ ∀ j v, (enc x)[j]? = some v → w.cell? ⟨b, o + (i * k + j), none⟩ = some v
theorem SliceAt.below {α : Type} {k : Nat} {enc : α → List Value} {w w' : World} {a : Option Addr} {len : Nat} {z : List α} (h : SliceAt k enc w a len z) (hb : Below w.heap.size w w') : SliceAt k enc w' a len z := by
  refine ⟨h.hlen, h.hmax, fun i x hi => ?_⟩
  obtain ⟨b, o, h1, h2, h3⟩ := h.cells i x hi
  refine ⟨b, o, h1, Nat.lt_of_lt_of_le h2 hb.size, fun j v hj => ?_⟩
  rw [← h3 j v hj]
  simp only [World.cell?, hb.block b h2]
end Go.Proofs.YtjjlodeiejobdaaDoor
namespace Go.Proofs.YtjjlodeiejobdaaDoor
open Go.RowKit
/-- The world behind the store of a row of values, cell by cell. -/
def rowSt (y : World) (g : Nat) : Nat → List Value → World
  | _, [] => y
  | i, v :: r => rowSt (y.setCell ⟨g, i, none⟩ v) g (i + 1) r
theorem rowSt_row {g : Nat} {t : TypeId} : ∀ (vs pre old : List Value) (y : World), y.heap[g]? = some (.cells (pre ++ old).toArray t (0, 0)) → old.length = vs.length → (rowSt y g pre.length vs).heap[g]? = some (.cells (pre ++ vs).toArray t (0, 0))
  | [], pre, old, y, h, hl => by
    have : old = [] := List.length_eq_zero_iff.1 hl
    subst this
    exact h
  | v :: r, pre, old, y, h, hl => by
    match old, hl with
    | o :: os, hl =>
      have h1 : (y.setCell ⟨g, pre.length, none⟩ v).heap[g]? = some (.cells ((pre ++ [v]) ++ os).toArray t (0, 0)) := by
        rw [heap_setCell_same _ _ _ _ _ _ h]
        simp
      have h2 := rowSt_row r (pre ++ [v]) os _ h1 (by simpa using hl)
      rw [List.length_append] at h2
      simp only [List.append_assoc, List.singleton_append] at h2
      exact h2
theorem rowSt_below {g n : Nat} {w0 : World} (hn : n ≤ g) : ∀ (vs : List Value) (i : Nat) (y : World), Below n w0 y → Below n w0 (rowSt y g i vs)
  | [], _, _, h => h
  | _ :: r, i, _, h => rowSt_below hn r (i + 1) _ (below_setV h hn)
theorem rowSt_other {g q : Nat} (hq : q ≠ g) : ∀ (vs : List Value) (i : Nat) (y : World), (rowSt y g i vs).heap[q]? = y.heap[q]?
  | [], _, _ => rfl
  | _ :: r, i, _ => (rowSt_other hq r (i + 1) _).trans (Below.heap_setCell _ _ _ _ (by exact hq))
end Go.Proofs.YtjjlodeiejobdaaDoor
namespace Go.Proofs.YtjjlodeiejobdaaDoor.RegS
open Go RegR
section
variable {P : Program} {ops : Array Oper} {Q : Exit → Act → World → Prop}
structure Can (P : Program) (ops : Array Oper) (Q : Exit → Act → World → Prop) (l : List (Oper × Nat)) (R : World → Prop) (a : Act) (w : World) : Prop where
  out : wpCan P ops Q l R a w
theorem wp_region (R : World → Prop) (σ : List (Nat × Nat)) {id : Nat} {a : Act} {w : World} {l : List Oper} (hm : P.follows .mixedOrders = true)
    (hB : (Region.noSelect l.toArray && canB (barOf σ) .any l.toArray σ (Array.replicate l.length false) && σ.all (fun p => decide (p.1 < l.length)) && (σ.length == l.length)) = true)
    (hQ : ∀ c a d v w, Q (.panic c) (Act.put a d v) w → Q (.panic c) a w)
    (hR : R { w with drawn := w.drawn + 1 })
    (h : Can P l.toArray Q (pick l σ) R a { w with drawn := w.drawn + 1 }) : (Code.region id l.toArray true).wp P Q a w := wp_region_can R σ hm hB hQ hR h.out
/-- An operation that only reads. -/
theorem reads {R : World → Prop} {a : Act} {w : World} {o : Oper} {r : List (Oper × Nat)}
    (h : ∀ K : Act → Prop, (∀ a, Can P ops Q r R a w → K a) → if Region.wanted o (yielded ops a.tmps) then ∃ v, (∀ x, R x → (execOp a.eval o).run P x = .ok (.value v) x) ∧ K (a.put o.dst v) else K (a.put o.dst undef)) :
    Can P ops Q ((o, 0) :: r) R a w := ⟨can_reads (fun K hK => h K (fun a hc => hK a hc.out))⟩
/-- An operation that may turn the world, within R. -/
theorem turns {R : World → Prop} {a : Act} {w : World} {o : Oper} {r : List (Oper × Nat)}
    (h : ∀ (K : Act → World → Prop) (K0 : Act → Prop), (∀ a w, R w → Can P ops Q r R a w → K a w) → (∀ a, Can P ops Q r R a w → K0 a) →
      if Region.wanted o (yielded ops a.tmps) then o.wp P a w K Q else K0 (a.put o.dst undef)) :
    Can P ops Q ((o, 1) :: r) R a w := ⟨can_turns (fun K K0 hK hK0 => h K K0 (fun a w h1 h2 => hK a w h1 h2.out) (fun a h1 => hK0 a h1.out))⟩
/-- An operation that may turn the world, and that waits for all that came before it. -/
theorem frees {R : World → Prop} {a : Act} {w : World} {o : Oper} {r : List (Oper × Nat)}
    (h : ∀ (K : Act → World → Prop) (K0 : Act → Prop), (∀ a w, Can P ops Q r (fun x => x = w) a w → K a w) → (∀ a, Can P ops Q r R a w → K0 a) →
      if Region.wanted o (yielded ops a.tmps) then o.wp P a w K Q else K0 (a.put o.dst undef)) :
    Can P ops Q ((o, 3) :: r) R a w := ⟨can_frees (fun K K0 hK hK0 => h K K0 (fun a w h1 => hK a w h1.out) (fun a h1 => hK0 a h1.out))⟩
/-- The same, where no operation stands over it. -/
theorem free {R : World → Prop} {a : Act} {w : World} {o : Oper} {r : List (Oper × Nat)} (hg : o.guard = none)
    (h : ∀ K : Act → World → Prop, (∀ a w, Can P ops Q r (fun x => x = w) a w → K a w) → o.wp P a w K Q) : Can P ops Q ((o, 3) :: r) R a w :=
  frees (fun K _ hK _ => by rw [if_pos (by simp [Region.wanted, hg])]; exact h K hK)
theorem turn {R : World → Prop} {a : Act} {w : World} {o : Oper} {r : List (Oper × Nat)} (hg : o.guard = none)
    (h : ∀ K : Act → World → Prop, (∀ a w, R w → Can P ops Q r R a w → K a w) → o.wp P a w K Q) : Can P ops Q ((o, 1) :: r) R a w :=
  turns (fun K _ hK _ => by rw [if_pos (by simp [Region.wanted, hg])]; exact h K hK)
/-- The last operation of all. -/
theorem last {R : World → Prop} {a : Act} {w : World} {o : Oper} {r : List (Oper × Nat)}
    (h : ∀ K : Act → World → Prop, (∀ a w, Q .normal a w → K a w) → if Region.wanted o (yielded ops a.tmps) then o.wp P a w K Q else K (a.put o.dst undef) w) :
    Can P ops Q ((o, 2) :: r) R a w := ⟨can_last h⟩
theorem nil {R : World → Prop} {a : Act} {w : World} (h : Q .normal a w) : Can P ops Q [] R a w := ⟨can_nil h⟩
end
end Go.Proofs.YtjjlodeiejobdaaDoor.RegS
namespace Go.Proofs.YtjjlodeiejobdaaDoor
open Go.RowKit
/-- Bytes as cells. -/
def bcells (l : List UInt8) : List Value := l.map fun b => Value.int .u8 b.toNat
theorem bcells_len (l : List UInt8) : (bcells l).length = l.length := by simp [bcells]
theorem bcells_one (l : List UInt8) : ∀ u ∈ bcells l, u.oneCell' = true := by
  intro u hu
  simp only [bcells, List.mem_map] at hu
  obtain ⟨b, _, rfl⟩ := hu
  rfl
theorem bcells_get {l : List UInt8} {j : Nat} (hj : j < l.length) : (bcells l)[j]? = some (.int .u8 (l[j].toNat : Int)) := by
  unfold bcells
  rw [List.getElem?_map, List.getElem?_eq_getElem hj]
  rfl
theorem bcells_app (l k : List UInt8) : bcells (l ++ k) = bcells l ++ bcells k := by simp [bcells]
/-- A slice whose bytes can be read. -/
structure ReadB (w : World) (v : Value) (l : List UInt8) : Prop where
  out : ∃ a cap, v = .slice a l.length cap ∧ (a = none → cap = 0) ∧ ∀ j u, (bcells l)[j]? = some u → ∃ b o, a = some ⟨b, o, none⟩ ∧ b < w.heap.size ∧ w.cell? ⟨b, o + j, none⟩ = some u
theorem ReadB.below {w w' : World} {v : Value} {l : List UInt8} (h : ReadB w v l) (hb : Below w.heap.size w w') : ReadB w' v l := by
  obtain ⟨a, cap, e, h0, h2⟩ := h.out
  exact ⟨a, cap, e, h0, fun j u hj => by obtain ⟨b, o, e1, e2, e3⟩ := h2 j u hj; exact ⟨b, o, e1, Nat.lt_of_lt_of_le e2 hb.size, (hb.cell (p := ⟨b, _, none⟩) e2).trans e3⟩⟩
theorem ReadB.slice {w : World} {v : Value} {l : List UInt8} (h : ReadB w v l) : ∃ a n c, v = .slice a n c := by
  obtain ⟨a, cap, e, _⟩ := h.out
  exact ⟨a, _, cap, e⟩
theorem ReadB.nil (w : World) : ReadB w (.slice none 0 0) [] := ⟨none, 0, rfl, fun _ => rfl, fun j u hj => by simp [bcells] at hj⟩
theorem ReadB.conv {P : Program} {w : World} {v : Value} {l : List UInt8} {src dst e : TypeId} (h : ReadB w v l) (hs : P.underlying src = some (.slice e)) (he : P.underlying e = some (.int .u8)) (hd : P.underlying dst = some .string) :
    (convert src dst v).run P w = .ok (.string ⟨l.toArray⟩) w := by
  obtain ⟨a, cap, rfl, _, h2⟩ := h.out
  match l, h2 with
  | [], _ =>
    cases a with
    | none => exact Lib.run_convert_nil_bytes w src dst e cap hs he hd
    | some a => exact run_convert_bytes_back w src dst e a cap [] hs he hd (fun j hj => by simp at hj)
  | b :: r, h2 =>
    obtain ⟨g, o, rfl, _, _⟩ := h2 0 _ (List.getElem?_eq_getElem (show 0 < (bcells (b :: r)).length by simp [bcells]))
    refine run_convert_bytes_back w src dst e ⟨g, o, none⟩ cap (b :: r) hs he hd (fun j hj => ?_)
    obtain ⟨g', o', e1, _, e3⟩ := h2 j (.int .u8 ((b :: r)[j].toNat : Int)) (bcells_get hj)
    cases e1
    rw [Addr.add_lit]
    exact e3
theorem ReadB.cells (w : World) (l : List UInt8) (t : TypeId) (cs : Array Value) (hcs : cs = (bcells l).toArray) (cap : Nat) : ReadB (w.alloc (.cells cs t)) (.slice (some ⟨w.heap.size, 0, none⟩) l.length cap) l := by
  subst hcs
  refine ⟨some ⟨w.heap.size, 0, none⟩, cap, rfl, (fun e => by cases e), fun j u hj => ⟨w.heap.size, 0, rfl, by simp, ?_⟩⟩
  have h := heap_alloc_new w (.cells (bcells l).toArray t)
  unfold World.cell?
  simp only [h, Nat.zero_add]
  simpa using hj
theorem ReadB.one (w : World) (b : UInt8) (t : TypeId) : ReadB (w.alloc (.cells #[.int .u8 (b.toNat : Int)] t)) (.slice (some ⟨w.heap.size, 0, none⟩) 1 1) [b] := by
  refine ⟨some ⟨w.heap.size, 0, none⟩, 1, rfl, (fun e => by cases e), fun j u hj => ?_⟩
  match j, hj with
  | 0, hj =>
    rw [show bcells [b] = [.int .u8 (b.toNat : Int)] from rfl, List.getElem?_cons_zero, Option.some.injEq] at hj
    subst hj
    have h := heap_alloc_new w (.cells #[.int .u8 (b.toNat : Int)] t)
    refine ⟨w.heap.size, 0, rfl, by simp, ?_⟩
    unfold World.cell?
    simp only [h]
    rfl
/-- A slice that owns its bytes: nobody else holds its block. -/
def OwnB (w : World) (base : Nat) (t : TypeId) (v : Value) (l : List UInt8) : Prop := w.ownsRow base t 1 v l.length (bcells l)
theorem OwnB.read {w : World} {base : Nat} {t : TypeId} {v : Value} {l : List UInt8} (h : OwnB w base t v l) : ReadB w v l := by
  unfold OwnB at h
  obtain ⟨h1, h2⟩ := h
  rcases h2 with ⟨rfl, h3⟩ | ⟨g, cap, cur, rfl, _, hg, _, _, hs, ht⟩
  · have : l = [] := List.eq_nil_of_length_eq_zero h3
    subst this
    exact ReadB.nil w
  · refine ⟨some ⟨g, 0, none⟩, cap, rfl, (fun e => by cases e), fun j u hj => ⟨g, 0, rfl, (Array.getElem?_eq_some_iff.1 hg).1, ?_⟩⟩
    have hjl : j < l.length := by
      have := (List.getElem?_eq_some_iff.1 hj).1
      rwa [bcells_len] at this
    rw [Nat.mul_one] at ht
    rw [← ht, List.getElem?_take, if_pos hjl, Array.getElem?_toList] at hj
    simp only [World.cell?, hg, Nat.zero_add]
    simpa using hj
theorem OwnB.below {w w' : World} {base : Nat} {t : TypeId} {v : Value} {l : List UInt8} (h : OwnB w base t v l) (hb : Below w.heap.size w w') : OwnB w' base t v l := by
  unfold OwnB at *
  obtain ⟨h1, h2⟩ := h
  refine ⟨h1, ?_⟩
  rcases h2 with h2 | ⟨g, cap, cur, e, h3, hg, h4⟩
  · exact .inl h2
  · exact .inr ⟨g, cap, cur, e, h3, (hb.block g (Array.getElem?_eq_some_iff.1 hg).1).trans hg, h4⟩
theorem OwnB.mono {w : World} {base base' : Nat} {t : TypeId} {v : Value} {l : List UInt8} (h : OwnB w base t v l) (hb : base' ≤ base) : OwnB w base' t v l := by
  unfold OwnB at *
  obtain ⟨h1, h2⟩ := h
  refine ⟨h1, ?_⟩
  rcases h2 with h2 | ⟨g, cap, cur, e, h3, h4⟩
  · exact .inl h2
  · exact .inr ⟨g, cap, cur, e, Nat.le_trans hb h3, h4⟩
theorem OwnB.setCell {w : World} {base : Nat} {t : TypeId} {v : Value} {l : List UInt8} {g i : Nat} {x : Value} (h : OwnB w base t v l) (hg : g < base) : OwnB (w.setCell ⟨g, i, none⟩ x) base t v l := by
  unfold OwnB at *
  obtain ⟨h1, h2⟩ := h
  refine ⟨h1, ?_⟩
  rcases h2 with h2 | ⟨q, cap, cur, e, h3, hq, h4⟩
  · exact .inl h2
  · exact .inr ⟨q, cap, cur, e, h3, (Below.heap_setCell _ _ _ _ (by show q ≠ g; omega)).trans hq, h4⟩
theorem OwnB.of {w : World} {base : Nat} {t : TypeId} {v : Value} {l k : List UInt8} {n : Nat} {xs : List Value} (h : w.ownsRow base t 1 v n xs) (hn : n = l.length + k.length) (hx : xs = bcells l ++ bcells k) : OwnB w base t v (l ++ k) := by
  subst hn hx
  unfold OwnB
  rw [bcells_app, List.length_append]
  exact h
theorem OwnB.one (w : World) (b : UInt8) (t : TypeId) : OwnB (w.alloc (.cells #[.int .u8 (b.toNat : Int)] t)) w.heap.size t (.slice (some ⟨w.heap.size, 0, none⟩) 1 1) [b] :=
  ⟨rfl, .inr ⟨w.heap.size, 1, _, rfl, Nat.le_refl _, heap_alloc_new w _, Nat.le_refl _, by unfold maxLen; omega, rfl, rfl⟩⟩
/-- 'append(s, x...)', s owned, x a slice that can be read, nil or not. -/
theorem wp_append_read {P : Program} {w : World} {o : Oper} {a : Act} {K : Act → World → Prop} {Q : Exit → Act → World → Prop} (s x : Operand) (t : TypeId)
    (ho : o.op = .call { callee := .builtin .append, args := #[s, x], argTypes := #[t, t] })
    (base : Nat) (e : TypeId) (i : TypeInfo) (z : Value) (ht : P.underlying t = some (.slice e)) (hi : P.info? e = some i) (hz : i.zero = some z)
    (hsize : i.size = 1) (hby : i.bytes = 1) (hzs : z.cells.size = 1)
    (v : Value) (n : Nat) (xs : List Value) (hs : a.eval s = v) (hown : w.ownsRow base e 1 v n xs) (V : Value) (k : List UInt8) (hx : a.eval x = V) (hr : ReadB w V k)
    (h63 : n + k.length ≤ 140737488355328) (hbase : base ≤ w.heap.size)
    (h : ∀ v' w', w'.ownsRow base e 1 v' (n + k.length) (xs ++ bcells k) → w.grownBy w' v.ownBlock → K (a.put o.dst v') w') : o.wp P a w K Q := by
  obtain ⟨ad, cap, rfl, h0, h2⟩ := hr.out
  cases ad with
  | none =>
    obtain rfl := h0 rfl
    have hk : k = [] := by
      match k, h2 with
      | [], _ => rfl
      | b :: r, h2 =>
        obtain ⟨_, _, e1, _⟩ := h2 0 _ (bcells_get (show 0 < (b :: r).length by simp))
        cases e1
    subst hk
    have hrun := run_append_owned_none (P := P) (w := w) base t o.type e i 1 ht hi v n xs hown
    have hh := h v w (by simpa [bcells] using hown) (World.grownBy.refl w _)
    have hx' : a.eval x = .slice none 0 0 := hx
    unfold Oper.wp
    simp [execOp, ho, resolve, invoke, builtin, hs, hx', hrun, Result.andThen]
    exact hh
  | some ad =>
    refine wp_append_own w s x t ho base e i z 1 1 ht hi hz hsize hby hzs (by omega) v n xs hs hown ad k.length cap (bcells k) hx (by rw [bcells_len, Nat.mul_one]) (fun j u hj => ?_) (bcells_one k) (by unfold maxLen; omega) (by omega) hbase (fun v' w' h3 h4 _ => h v' w' h3 h4)
    obtain ⟨b, o', e1, _, e3⟩ := h2 j u hj
    cases e1
    rw [Addr.add_lit]
    exact e3
theorem wpList_append_read {P : Program} {w : World} {ops : Array Oper} {rest : List Oper} {o : Oper} {a : Act} {Q : Exit → Act → World → Prop} (hgd : o.guard = none) (s x : Operand) (t : TypeId)
    (ho : o.op = .call { callee := .builtin .append, args := #[s, x], argTypes := #[t, t] })
    (base : Nat) (e : TypeId) (i : TypeInfo) (z : Value) (ht : P.underlying t = some (.slice e)) (hi : P.info? e = some i) (hz : i.zero = some z)
    (hsize : i.size = 1) (hby : i.bytes = 1) (hzs : z.cells.size = 1)
    (v : Value) (n : Nat) (xs : List Value) (hs : a.eval s = v) (hown : w.ownsRow base e 1 v n xs) (V : Value) (k : List UInt8) (hx : a.eval x = V) (hr : ReadB w V k)
    (h63 : n + k.length ≤ 140737488355328) (hbase : base ≤ w.heap.size)
    (h : ∀ v' w', w'.ownsRow base e 1 v' (n + k.length) (xs ++ bcells k) → w.grownBy w' v.ownBlock → wpList P ops Q rest (a.put o.dst v') w') : wpList P ops Q (o :: rest) a w :=
  wpList_plain hgd fun _ hK => wp_append_read s x t ho base e i z ht hi hz hsize hby hzs v n xs hs hown V k hx hr h63 hbase fun v' w' h3 h4 => hK _ _ (h v' w' h3 h4)
theorem below_grown {w w' : World} {row : Option Nat} {n : Nat} {w0 : World} (hg : w.grownBy w' row) (hb : Below n w0 w) (hn : n ≤ w.heap.size) (hr : ∀ k, row = some k → n ≤ k) : Below n w0 w' :=
  hb.trans ⟨hg.os, hg.tape, hg.output, hg.size, fun k hk => hg.block k (Nat.lt_of_lt_of_le hk hn) (fun e => by have := hr k e.symm; omega)⟩
end Go.Proofs.YtjjlodeiejobdaaDoor
