/- A law on regions that draw their order where two operations that turn the world may be up at once: the plan forks. Over RegK. No condition. -/
import Derived.Test.YtjjlodeiejobdaaDoorRegK
namespace Go.Proofs.YtjjlodeiejobdaaDoor.RegJ
open Go RegK
/-- A plan: operations by their numbers. -/
inductive Plan where
  | nil : Plan
  | step (k e : Nat) (r : Plan) : Plan
  | fork (k : Nat) (r : Plan) (j : Nat) (s : Plan) : Plan
/-- A plan with its operations. -/
inductive PlanO where
  | nil : PlanO
  | bad : PlanO
  | step (o : Oper) (e : Nat) (r : PlanO) : PlanO
  | fork (o : Oper) (r : PlanO) (u : Oper) (s : PlanO) : PlanO
def Plan.len : Plan → Nat
  | .nil => 0
  | .step _ _ r => r.len + 1
  | .fork _ r _ _ => r.len + 1
def pickJ (l : List Oper) : Plan → PlanO
  | .nil => .nil
  | .step k e r => match l[k]? with | some o => .step o e (pickJ l r) | none => .bad
  | .fork k r j s => match l[k]?, l[j]? with | some o, some u => .fork o (pickJ l r) u (pickJ l s) | _, _ => .bad
section
variable {F : Fence} {n : Nat} {P : Program} {ops : Array Oper} {Q : Exit → Act → World → Prop} {md : Region.Mode}
/-- The walk: 0 reads only, 1 turns the world within R; at a fork both ways. -/
def canJ (F : Fence) (n : Nat) (P : Program) (ops : Array Oper) (Q : Exit → Act → World → Prop) : PlanO → (World → Prop) → Act → World → Prop
  | .nil, _, a, w => Q .normal a w
  | .bad, _, _, _ => False
  | .step o 0 r, R, a, w =>
    if Region.wanted o (yielded ops a.tmps) then ∃ v, (∀ x, R x → (execOp a.eval o).run P x = .ok (.value v) x) ∧ canJ F n P ops Q r R (a.put o.dst v) w
    else canJ F n P ops Q r R (a.put o.dst undef) w
  | .step o (_ + 1) r, R, a, w =>
    if Region.wanted o (yielded ops a.tmps) then o.wpIn F n P a w (fun a' w' => ∃ R' : World → Prop, (∀ x, R' x → R x) ∧ R' w' ∧ canJ F n P ops Q r R' a' w') Q
    else (∀ f, o.about P w a.eval = some f → F.fn f) ∧ canJ F n P ops Q r R (a.put o.dst undef) w
  | .fork o r u s, R, a, w =>
    (if Region.wanted o (yielded ops a.tmps) then o.wpIn F n P a w (fun a' w' => ∃ R' : World → Prop, (∀ x, R' x → R x) ∧ R' w' ∧ canJ F n P ops Q r R' a' w') Q
      else (∀ f, o.about P w a.eval = some f → F.fn f) ∧ canJ F n P ops Q r R (a.put o.dst undef) w) ∧
    (if Region.wanted u (yielded ops a.tmps) then u.wpIn F n P a w (fun a' w' => ∃ R' : World → Prop, (∀ x, R' x → R x) ∧ R' w' ∧ canJ F n P ops Q s R' a' w') Q
      else (∀ f, u.about P w a.eval = some f → F.fn f) ∧ canJ F n P ops Q s R (a.put u.dst undef) w)
def canJB (md : Region.Mode) (ops : Array Oper) : Plan → Array Bool → Bool
  | .nil, listed => (Region.ready md ops listed).isEmpty
  | .step k 0 r, listed => decide (k < ops.size) && (Region.ready md ops listed).contains k && Region.free md ops listed k && (match ops[k]? with | some o => noCall o | none => false) && canJB md ops r (listed.setIfInBounds k true)
  | .step k (_ + 1) r, listed => decide (k < ops.size) && Region.ready md ops listed == [k] && canJB md ops r (listed.setIfInBounds k true)
  | .fork k r j s, listed => decide (k < ops.size) && decide (j < ops.size) && Region.ready md ops listed == [k, j] && r.len == s.len && canJB md ops r (listed.setIfInBounds k true) && canJB md ops s (listed.setIfInBounds j true)
theorem any_canJ (hro : ∀ o ∈ ops, noDefer o = true) (hs : Region.noSelect ops = true) (hQ : ∀ c a d v w, Q (.panic c) (Act.put a d v) w → Q (.panic c) a w) : ∀ (r : Plan) (listed : Array Bool) (R : World → Prop) (a : Act) (w : World),
    listed.size = ops.size → Closed md ops listed → canJB md ops r listed = true → R w → canJ F n P ops Q (pickJ ops.toList r) R a w → anyR (fun _ => false) F n P md ops Q r.len listed R a w
  | .nil, _, _, _, _, _, _, hB, _, h => ⟨by simpa [canJB] using hB, h⟩
  | .step k 0 r, listed, R, a, w, hsz, hcl, hB, hR, h => by
    simp only [canJB, Bool.and_eq_true, decide_eq_true_eq] at hB
    obtain ⟨⟨⟨⟨hk, hr⟩, hf⟩, hc⟩, hB'⟩ := hB
    have h0 : ops[k]? = some ops[k] := Array.getElem?_eq_getElem hk
    have h0' : ops.toList[k]? = some ops[k] := by simp [hk]
    simp only [h0] at hc
    have hsz' : (listed.setIfInBounds k true).size = ops.size := by simpa using hsz
    have hcl' := hcl.set (i := k) (by simpa using hr)
    simp only [pickJ, h0', canJ] at h
    have hbs : ∀ j, listed.getD j true = false → j ≠ k → (fun _ => false) j = true → k ∈ back md ops ops.size (onsOf md ops j) := fun j _ _ h3 => by cases h3
    by_cases hw : Region.wanted ops[k] (yielded ops a.tmps) = true
    · simp only [hw, if_true] at h
      obtain ⟨v, hv, hK⟩ := h
      exact first hro h0 hc (Region.noSelect_spec hs) (fun c a w => hQ c a _ _ w) r.len listed R a w (Region.free_spec h0 hf) hbs hcl (by simpa using hr) hR (.inl ⟨hw, hv⟩) (any_canJ hro hs hQ r _ R _ w hsz' hcl' hB' hR hK)
    · simp only [hw] at h
      exact first hro h0 hc (Region.noSelect_spec hs) (fun c a w => hQ c a _ _ w) r.len listed R a w (Region.free_spec h0 hf) hbs hcl (by simpa using hr) hR (.inr ⟨by simpa using hw, rfl⟩) (any_canJ hro hs hQ r _ R _ w hsz' hcl' hB' hR h)
  | .step k (m + 1) r, listed, R, a, w, hsz, hcl, hB, hR, h => by
    simp only [canJB, Bool.and_eq_true, beq_iff_eq, decide_eq_true_eq] at hB
    obtain ⟨⟨hk, hr⟩, hB'⟩ := hB
    have h0 : ops[k]? = some ops[k] := Array.getElem?_eq_getElem hk
    have h0' : ops.toList[k]? = some ops[k] := by simp [hk]
    have hsz' : (listed.setIfInBounds k true).size = ops.size := by simpa using hsz
    have hcl' := hcl.set (i := k) (by rw [hr]; simp)
    simp only [pickJ, h0', canJ] at h
    refine ⟨fun h => (by rw [hr] at h; cases h), fun j hj => ?_⟩
    rw [hr] at hj
    obtain rfl : j = k := by simpa using hj
    unfold wpOpIn
    simp only [h0]
    by_cases hw : Region.wanted ops[j] (yielded ops a.tmps) = true
    · simp only [hw, if_true] at h ⊢
      exact Oper.wpIn_mono (fun a' w' ⟨R', g0, g1, g2⟩ => ⟨R', g1, .inr g0, any_canJ hro hs hQ r _ R' a' w' hsz' hcl' hB' g1 g2⟩) h
    · simp only [hw] at h ⊢
      exact ⟨h.1, R, hR, .inr fun _ h => h, any_canJ hro hs hQ r _ R _ w hsz' hcl' hB' hR h.2⟩
  | .fork k r j s, listed, R, a, w, hsz, hcl, hB, hR, h => by
    simp only [canJB, Bool.and_eq_true, beq_iff_eq, decide_eq_true_eq] at hB
    obtain ⟨⟨⟨⟨⟨hk, hj⟩, hr⟩, hlen⟩, hB1⟩, hB2⟩ := hB
    have h0 : ops[k]? = some ops[k] := Array.getElem?_eq_getElem hk
    have h0' : ops.toList[k]? = some ops[k] := by simp [hk]
    have g0 : ops[j]? = some ops[j] := Array.getElem?_eq_getElem hj
    have g0' : ops.toList[j]? = some ops[j] := by simp [hj]
    have hcl1 := hcl.set (i := k) (by rw [hr]; simp)
    have hcl2 := hcl.set (i := j) (by rw [hr]; simp)
    simp only [pickJ, h0', g0', canJ] at h
    obtain ⟨h1, h2⟩ := h
    refine ⟨fun h => (by rw [hr] at h; cases h), fun i hi => ?_⟩
    rw [hr] at hi
    have hi' : i = k ∨ i = j := by simpa using hi
    rcases hi' with rfl | rfl
    · unfold wpOpIn
      simp only [h0]
      by_cases hw : Region.wanted ops[i] (yielded ops a.tmps) = true
      · simp only [hw, if_true] at h1 ⊢
        exact Oper.wpIn_mono (fun a' w' ⟨R', g0, g1, g2⟩ => ⟨R', g1, .inr g0, any_canJ hro hs hQ r _ R' a' w' (by simpa using hsz) hcl1 hB1 g1 g2⟩) h1
      · simp only [hw] at h1 ⊢
        exact ⟨h1.1, R, hR, .inr fun _ h => h, any_canJ hro hs hQ r _ R _ w (by simpa using hsz) hcl1 hB1 hR h1.2⟩
    · unfold wpOpIn
      simp only [g0]
      by_cases hw : Region.wanted ops[i] (yielded ops a.tmps) = true
      · simp only [hw, if_true] at h2 ⊢
        exact Oper.wpIn_mono (fun a' w' ⟨R', g0, g1, g2⟩ => ⟨R', g1, .inr g0, by
          have := any_canJ hro hs hQ s _ R' a' w' (by simpa using hsz) hcl2 hB2 g1 g2
          show anyR (fun _ => false) F n P md ops Q r.len _ _ _ _
          rw [hlen]
          exact this⟩) h2
      · simp only [hw] at h2 ⊢
        exact ⟨h2.1, R, hR, .inr fun _ h => h, by
          have := any_canJ hro hs hQ s _ R _ w (by simpa using hsz) hcl2 hB2 hR h2.2
          show anyR (fun _ => false) F n P md ops Q r.len _ _ _ _
          rw [hlen]
          exact this⟩
/-- The walk, behind a name that nothing opens. -/
structure Can (F : Fence) (n : Nat) (P : Program) (ops : Array Oper) (Q : Exit → Act → World → Prop) (l : PlanO) (R : World → Prop) (a : Act) (w : World) : Prop where
  out : canJ F n P ops Q l R a w
theorem wpIn_region_plan (R : World → Prop) (π : Plan) {id : Nat} {a : Act} {w : World} {l : List Oper} (hro : l.all noDefer = true) (hm : P.follows .mixedOrders = true)
    (hB : (Region.noSelect l.toArray && canJB .any l.toArray π (Array.replicate l.length false) && (π.len == l.length)) = true)
    (hQ : ∀ c a d v w, Q (.panic c) (Act.put a d v) w → Q (.panic c) a w) (hR : R { w with drawn := w.drawn + 1 })
    (h : Can F n P l.toArray Q (pickJ l π) R a { w with drawn := w.drawn + 1 }) : (Code.region id l.toArray true).wpIn F n P Q a w := by
  simp only [Bool.and_eq_true, beq_iff_eq] at hB
  obtain ⟨⟨h1, h2⟩, h4⟩ := hB
  refine wpIn_region_any hm (any_of (bar := fun _ => false) _ _ R _ _ ?_)
  have := any_canJ (F := F) (n := n) (P := P) (ops := l.toArray) (md := .any) (Q := Q) (fun o ho => List.all_eq_true.1 hro o (by simpa using ho)) h1 hQ π (Array.replicate l.length false) R a _ (by simp) (Closed.none _) h2 hR (by simpa using h.out)
  simpa [h4] using this
theorem reads {R : World → Prop} {a : Act} {w : World} {o : Oper} {r : PlanO}
    (h : ∀ K : Act → Prop, (∀ a, Can F n P ops Q r R a w → K a) → if Region.wanted o (yielded ops a.tmps) then ∃ v, (∀ x, R x → (execOp a.eval o).run P x = .ok (.value v) x) ∧ K (a.put o.dst v) else K (a.put o.dst undef)) :
    Can F n P ops Q (.step o 0 r) R a w := ⟨h _ (fun _ h => h.out)⟩
theorem turns (hfn : ∀ f, F.fn f) {R : World → Prop} {a : Act} {w : World} {o : Oper} {r : PlanO}
    (h : ∀ (K : Act → World → Prop) (K0 : Act → Prop), (∀ (R' : World → Prop) a w, (∀ x, R' x → R x) → R' w → Can F n P ops Q r R' a w → K a w) → (∀ a, Can F n P ops Q r R a w → K0 a) →
      if Region.wanted o (yielded ops a.tmps) then o.wpIn F n P a w K Q else K0 (a.put o.dst undef)) :
    Can F n P ops Q (.step o 1 r) R a w := by
  have h' := h (fun a' w' => ∃ R' : World → Prop, (∀ x, R' x → R x) ∧ R' w' ∧ canJ F n P ops Q r R' a' w') (fun a => canJ F n P ops Q r R a w) (fun R' _ _ h0 h1 h2 => ⟨R', h0, h1, h2.out⟩) (fun _ h => h.out)
  refine ⟨?_⟩
  simp only [canJ]
  split
  · rename_i hw; rw [if_pos hw] at h'; exact h'
  · rename_i hw; rw [if_neg hw] at h'; exact ⟨fun f _ => hfn f, h'⟩
theorem forks {R : World → Prop} {a : Act} {w : World} {o u : Oper} {r s : PlanO} (h1 : Can F n P ops Q (.step o 1 r) R a w) (h2 : Can F n P ops Q (.step u 1 s) R a w) : Can F n P ops Q (.fork o r u s) R a w := ⟨⟨h1.out, h2.out⟩⟩
theorem nil {R : World → Prop} {a : Act} {w : World} (h : Q .normal a w) : Can F n P ops Q .nil R a w := ⟨h⟩
end
end Go.Proofs.YtjjlodeiejobdaaDoor.RegJ
