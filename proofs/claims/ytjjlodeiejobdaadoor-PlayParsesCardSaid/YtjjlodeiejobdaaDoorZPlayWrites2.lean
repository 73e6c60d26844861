/- A law on regions that draw their order where two operations that turn the world may be up at once: the plan forks. Over RegK. No condition. -/
import Derived.Test.YtjjlodeiejobdaaDoorZPlayWrites1
import Derived.Lib.ItoaMem
import Derived.Lib.ParseUintOr
import Derived.Lib.ParseIntBTie
import Derived.Lib.SplitLaws
import Derived.Lib.Join
import Derived.WalkKit
namespace Go.Proofs.YtjjlodeiejobdaaDoor.RegJ
open Go RegK
/-- A plan: operations by their numbers. -/
inductive Plan where
  | nil : Plan
  | step (k e : Nat) (r : Plan) : Plan
  | fork (k : Nat) (r : Plan) (j : Nat) (s : Plan) : Plan
/-- A plan with its operations. -/
inductive PlanO where
  | nil : PlanO
  | bad : PlanO
  | step (o : Oper) (e : Nat) (r : PlanO) : PlanO
  | fork (o : Oper) (r : PlanO) (u : Oper) (s : PlanO) : PlanO
def Plan.len : Plan → Nat
  | .nil => 0
  | .step _ _ r => r.len + 1
  | .fork _ r _ _ => r.len + 1
def pickJ (l : List Oper) : Plan → PlanO
  | .nil => .nil
  | .step k e r => match l[k]? with | some o => .step o e (pickJ l r) | none => .bad
  | .fork k r j s => match l[k]?, l[j]? with | some o, some u => .fork o (pickJ l r) u (pickJ l s) | _, _ => .bad
section
variable {F : Fence} {n : Nat} {P : Program} {ops : Array Oper} {Q : Exit → Act → World → Prop} {md : Region.Mode}
/-- The walk: 0 reads only, 1 turns the world within R; at a fork both ways. -/
def canJ (F : Fence) (n : Nat) (P : Program) (ops : Array Oper) (Q : Exit → Act → World → Prop) : PlanO → (World → Prop) → Act → World → Prop
  | .nil, _, a, w => Q .normal a w
  | .bad, _, _, _ => False
  | .step o 0 r, R, a, w =>
    if Region.wanted o (yielded ops a.tmps) then ∃ v, (∀ x, R x → (execOp a.eval o).run P x = .ok (.value v) x) ∧ canJ F n P ops Q r R (a.put o.dst v) w
    else canJ F n P ops Q r R (a.put o.dst undef) w
  | .step o (_ + 1) r, R, a, w =>
    if Region.wanted o (yielded ops a.tmps) then o.wpIn F n P a w (fun a' w' => ∃ R' : World → Prop, (∀ x, R' x → R x) ∧ R' w' ∧ canJ F n P ops Q r R' a' w') Q
    else (∀ f, o.about P w a.eval = some f → F.fn f) ∧ canJ F n P ops Q r R (a.put o.dst undef) w
  | .fork o r u s, R, a, w =>
    (if Region.wanted o (yielded ops a.tmps) then o.wpIn F n P a w (fun a' w' => ∃ R' : World → Prop, (∀ x, R' x → R x) ∧ R' w' ∧ canJ F n P ops Q r R' a' w') Q
      else (∀ f, o.about P w a.eval = some f → F.fn f) ∧ canJ F n P ops Q r R (a.put o.dst undef) w) ∧
    (if Region.wanted u (yielded ops a.tmps) then u.wpIn F n P a w (fun a' w' => ∃ R' : World → Prop, (∀ x, R' x → R x) ∧ R' w' ∧ canJ F n P ops Q s R' a' w') Q
      else (∀ f, u.about P w a.eval = some f → F.fn f) ∧ canJ F n P ops Q s R (a.put u.dst undef) w)
def canJB (md : Region.Mode) (ops : Array Oper) : Plan → Array Bool → Bool
  | .nil, listed => (Region.ready md ops listed).isEmpty
  | .step k 0 r, listed => decide (k < ops.size) && (Region.ready md ops listed).contains k && Region.free md ops listed k && (match ops[k]? with | some o => noCall o | none => false) && canJB md ops r (listed.setIfInBounds k true)
  | .step k (_ + 1) r, listed => decide (k < ops.size) && Region.ready md ops listed == [k] && canJB md ops r (listed.setIfInBounds k true)
  | .fork k r j s, listed => decide (k < ops.size) && decide (j < ops.size) && Region.ready md ops listed == [k, j] && r.len == s.len && canJB md ops r (listed.setIfInBounds k true) && canJB md ops s (listed.setIfInBounds j true)
theorem any_canJ (hro : ∀ o ∈ ops, noDefer o = true) (hs : Region.noSelect ops = true) (hQ : ∀ c a d v w, Q (.panic c) (Act.put a d v) w → Q (.panic c) a w) : ∀ (r : Plan) (listed : Array Bool) (R : World → Prop) (a : Act) (w : World),
    listed.size = ops.size → Closed md ops listed → canJB md ops r listed = true → R w → canJ F n P ops Q (pickJ ops.toList r) R a w → anyR (fun _ => false) F n P md ops Q r.len listed R a w
  | .nil, _, _, _, _, _, _, hB, _, h => ⟨by simpa [canJB] using hB, h⟩
  | .step k 0 r, listed, R, a, w, hsz, hcl, hB, hR, h => by
    simp only [canJB, Bool.and_eq_true, decide_eq_true_eq] at hB
    obtain ⟨⟨⟨⟨hk, hr⟩, hf⟩, hc⟩, hB'⟩ := hB
    have h0 : ops[k]? = some ops[k] := Array.getElem?_eq_getElem hk
    have h0' : ops.toList[k]? = some ops[k] := by simp [hk]
    simp only [h0] at hc
    have hsz' : (listed.setIfInBounds k true).size = ops.size := by simpa using hsz
    have hcl' := hcl.set (i := k) (by simpa using hr)
    simp only [pickJ, h0', canJ] at h
    have hbs : ∀ j, listed.getD j true = false → j ≠ k → (fun _ => false) j = true → k ∈ back md ops ops.size (onsOf md ops j) := fun j _ _ h3 => by cases h3
    by_cases hw : Region.wanted ops[k] (yielded ops a.tmps) = true
    · simp only [hw, if_true] at h
      obtain ⟨v, hv, hK⟩ := h
      exact first hro h0 hc (Region.noSelect_spec hs) (fun c a w => hQ c a _ _ w) r.len listed R a w (Region.free_spec h0 hf) hbs hcl (by simpa using hr) hR (.inl ⟨hw, hv⟩) (any_canJ hro hs hQ r _ R _ w hsz' hcl' hB' hR hK)
    · simp only [hw] at h
      exact first hro h0 hc (Region.noSelect_spec hs) (fun c a w => hQ c a _ _ w) r.len listed R a w (Region.free_spec h0 hf) hbs hcl (by simpa using hr) hR (.inr ⟨by simpa using hw, rfl⟩) (any_canJ hro hs hQ r _ R _ w hsz' hcl' hB' hR h)
  | .step k (m + 1) r, listed, R, a, w, hsz, hcl, hB, hR, h => by
    simp only [canJB, Bool.and_eq_true, beq_iff_eq, decide_eq_true_eq] at hB
    obtain ⟨⟨hk, hr⟩, hB'⟩ := hB
    have h0 : ops[k]? = some ops[k] := Array.getElem?_eq_getElem hk
    have h0' : ops.toList[k]? = some ops[k] := by simp [hk]
    have hsz' : (listed.setIfInBounds k true).size = ops.size := by simpa using hsz
    have hcl' := hcl.set (i := k) (by rw [hr]; simp)
    simp only [pickJ, h0', canJ] at h
    refine ⟨fun h => (by rw [hr] at h; cases h), fun j hj => ?_⟩
    rw [hr] at hj
    obtain rfl : j = k := by simpa using hj
    unfold wpOpIn
    simp only [h0]
    by_cases hw : Region.wanted ops[j] (yielded ops a.tmps) = true
    · simp only [hw, if_true] at h ⊢
      exact Oper.wpIn_mono (fun a' w' ⟨R', g0, g1, g2⟩ => ⟨R', g1, .inr g0, any_canJ hro hs hQ r _ R' a' w' hsz' hcl' hB' g1 g2⟩) h
    · simp only [hw] at h ⊢
      exact ⟨h.1, R, hR, .inr fun _ h => h, any_canJ hro hs hQ r _ R _ w hsz' hcl' hB' hR h.2⟩
  | .fork k r j s, listed, R, a, w, hsz, hcl, hB, hR, h => by
    simp only [canJB, Bool.and_eq_true, beq_iff_eq, decide_eq_true_eq] at hB
    obtain ⟨⟨⟨⟨⟨hk, hj⟩, hr⟩, hlen⟩, hB1⟩, hB2⟩ := hB
    have h0 : ops[k]? = some ops[k] := Array.getElem?_eq_getElem hk
    have h0' : ops.toList[k]? = some ops[k] := by simp [hk]
    have g0 : ops[j]? = some ops[j] := Array.getElem?_eq_getElem hj
    have g0' : ops.toList[j]? = some ops[j] := by simp [hj]
    have hcl1 := hcl.set (i := k) (by rw [hr]; simp)
    have hcl2 := hcl.set (i := j) (by rw [hr]; simp)
    simp only [pickJ, h0', g0', canJ] at h
    obtain ⟨h1, h2⟩ := h
    refine ⟨fun h => (by rw [hr] at h; cases h), fun i hi => ?_⟩
    rw [hr] at hi
    have hi' : i = k ∨ i = j := by simpa using hi
    rcases hi' with rfl | rfl
    · unfold wpOpIn
      simp only [h0]
      by_cases hw : Region.wanted ops[i] (yielded ops a.tmps) = true
      · simp only [hw, if_true] at h1 ⊢
        exact Oper.wpIn_mono (fun a' w' ⟨R', g0, g1, g2⟩ => ⟨R', g1, .inr g0, any_canJ hro hs hQ r _ R' a' w' (by simpa using hsz) hcl1 hB1 g1 g2⟩) h1
      · simp only [hw] at h1 ⊢
        exact ⟨h1.1, R, hR, .inr fun _ h => h, any_canJ hro hs hQ r _ R _ w (by simpa using hsz) hcl1 hB1 hR h1.2⟩
    · unfold wpOpIn
      simp only [g0]
      by_cases hw : Region.wanted ops[i] (yielded ops a.tmps) = true
      · simp only [hw, if_true] at h2 ⊢
        exact Oper.wpIn_mono (fun a' w' ⟨R', g0, g1, g2⟩ => ⟨R', g1, .inr g0, by
          have := any_canJ hro hs hQ s _ R' a' w' (by simpa using hsz) hcl2 hB2 g1 g2
          show anyR (fun _ => false) F n P md ops Q r.len _ _ _ _
          rw [hlen]
          exact this⟩) h2
      · simp only [hw] at h2 ⊢
        exact ⟨h2.1, R, hR, .inr fun _ h => h, by
          have := any_canJ hro hs hQ s _ R _ w (by simpa using hsz) hcl2 hB2 hR h2.2
          show anyR (fun _ => false) F n P md ops Q r.len _ _ _ _
          rw [hlen]
          exact this⟩
/-- The walk, behind a name that nothing opens. -/
structure Can (F : Fence) (n : Nat) (P : Program) (ops : Array Oper) (Q : Exit → Act → World → Prop) (l : PlanO) (R : World → Prop) (a : Act) (w : World) : Prop where
  out : canJ F n P ops Q l R a w
theorem wpIn_region_plan (R : World → Prop) (π : Plan) {id : Nat} {a : Act} {w : World} {l : List Oper} (hro : l.all noDefer = true) (hm : P.follows .mixedOrders = true)
    (hB : (Region.noSelect l.toArray && canJB .any l.toArray π (Array.replicate l.length false) && (π.len == l.length)) = true)
    (hQ : ∀ c a d v w, Q (.panic c) (Act.put a d v) w → Q (.panic c) a w) (hR : R { w with drawn := w.drawn + 1 })
    (h : Can F n P l.toArray Q (pickJ l π) R a { w with drawn := w.drawn + 1 }) : (Code.region id l.toArray true).wpIn F n P Q a w := by
  simp only [Bool.and_eq_true, beq_iff_eq] at hB
  obtain ⟨⟨h1, h2⟩, h4⟩ := hB
  refine wpIn_region_any hm (any_of (bar := fun _ => false) _ _ R _ _ ?_)
  have := any_canJ (F := F) (n := n) (P := P) (ops := l.toArray) (md := .any) (Q := Q) (fun o ho => List.all_eq_true.1 hro o (by simpa using ho)) h1 hQ π (Array.replicate l.length false) R a _ (by simp) (Closed.none _) h2 hR (by simpa using h.out)
  simpa [h4] using this
theorem reads {R : World → Prop} {a : Act} {w : World} {o : Oper} {r : PlanO}
    (h : ∀ K : Act → Prop, (∀ a, Can F n P ops Q r R a w → K a) → if Region.wanted o (yielded ops a.tmps) then ∃ v, (∀ x, R x → (execOp a.eval o).run P x = .ok (.value v) x) ∧ K (a.put o.dst v) else K (a.put o.dst undef)) :
    Can F n P ops Q (.step o 0 r) R a w := ⟨h _ (fun _ h => h.out)⟩
theorem turns (hfn : ∀ f, F.fn f) {R : World → Prop} {a : Act} {w : World} {o : Oper} {r : PlanO}
    (h : ∀ (K : Act → World → Prop) (K0 : Act → Prop), (∀ (R' : World → Prop) a w, (∀ x, R' x → R x) → R' w → Can F n P ops Q r R' a w → K a w) → (∀ a, Can F n P ops Q r R a w → K0 a) →
      if Region.wanted o (yielded ops a.tmps) then o.wpIn F n P a w K Q else K0 (a.put o.dst undef)) :
    Can F n P ops Q (.step o 1 r) R a w := by
  have h' := h (fun a' w' => ∃ R' : World → Prop, (∀ x, R' x → R x) ∧ R' w' ∧ canJ F n P ops Q r R' a' w') (fun a => canJ F n P ops Q r R a w) (fun R' _ _ h0 h1 h2 => ⟨R', h0, h1, h2.out⟩) (fun _ h => h.out)
  refine ⟨?_⟩
  simp only [canJ]
  split
  · rename_i hw; rw [if_pos hw] at h'; exact h'
  · rename_i hw; rw [if_neg hw] at h'; exact ⟨fun f _ => hfn f, h'⟩
theorem nil {R : World → Prop} {a : Act} {w : World} (h : Q .normal a w) : Can F n P ops Q .nil R a w := ⟨h⟩
end
end Go.Proofs.YtjjlodeiejobdaaDoor.RegJ
namespace Go.Proofs.YtjjlodeiejobdaaDoor
abbrev Bs := List UInt8
def itsB (c : UInt8) : Bool := (decide (97 ≤ c.toNat) && decide (c.toNat ≤ 122)) || (decide (65 ≤ c.toNat) && decide (c.toNat ≤ 90)) || (decide (48 ≤ c.toNat) && decide (c.toNat ≤ 57)) || decide (c.toNat = 95)
def hxB (n : Nat) : UInt8 := if n < 10 then UInt8.ofNat (48 + n) else UInt8.ofNat (87 + n)
def quo1 (c : UInt8) : Bs := if itsB c then [c] else [37, hxB (c.toNat / 16), hxB (c.toNat % 16)]
def quoL (l : Bs) : Bs := if l = [] then [45] else l.flatMap quo1
def hexV (c : UInt8) : Option Nat := if 48 ≤ c.toNat ∧ c.toNat ≤ 57 then some (c.toNat - 48) else if 97 ≤ c.toNat ∧ c.toNat ≤ 102 then some (c.toNat - 87) else if 65 ≤ c.toNat ∧ c.toNat ≤ 70 then some (c.toNat - 55) else none
def decL : Bs → Option Bs
  | [] => some []
  | c :: r => if c = 37 then
      match r with
      | a :: b :: r' => match hexV a, hexV b with
        | some x, some y => (decL r').map (UInt8.ofNat (16 * x + y) :: ·)
        | _, _ => none
      | _ => none
    else (decL r).map (c :: ·)
def unqL (s : Bs) : Option Bs := if s = [45] then some [] else match decL s with
  | some b => if quoL b = s then some b else none
  | none => none
theorem hex_fin : ∀ n : Fin 16, hexV (hxB n.val) = some n.val := by decide
theorem quo_fin : ∀ c : Fin 256, itsB (UInt8.ofNat c.val) = true → UInt8.ofNat c.val ≠ 37 ∧ UInt8.ofNat c.val ≠ 45 ∧ UInt8.ofNat c.val ≠ 32 ∧ UInt8.ofNat c.val ≠ 10 := by decide +kernel
theorem its_ne {c : UInt8} (h : itsB c = true) : c ≠ 37 ∧ c ≠ 45 ∧ c ≠ 32 ∧ c ≠ 10 := by
  have := quo_fin ⟨c.toNat, c.toNat_lt⟩
  simp only [UInt8.ofNat_toNat] at this
  exact this h
theorem hx_fin : ∀ n : Fin 16, hxB n.val ≠ 32 ∧ hxB n.val ≠ 10 := by decide
theorem dec_quo1 (c : UInt8) (r : Bs) : decL (quo1 c ++ r) = (decL r).map (c :: ·) := by
  unfold quo1
  cases h : itsB c with
  | true =>
    simp only [if_true, List.singleton_append]
    conv => lhs; unfold decL
    simp only [if_neg (its_ne h).1]
  | false =>
    have h1 := hex_fin ⟨c.toNat / 16, by have := c.toNat_lt; omega⟩
    have h2 := hex_fin ⟨c.toNat % 16, Nat.mod_lt _ (by decide)⟩
    simp only at h1 h2
    simp only [Bool.false_eq_true, if_false, List.cons_append, List.nil_append]
    rw [decL, if_pos rfl]
    simp only [h1, h2, show 16 * (c.toNat / 16) + c.toNat % 16 = c.toNat by omega, UInt8.ofNat_toNat]
theorem dec_quo : ∀ l : Bs, decL (l.flatMap quo1) = some l
  | [] => rfl
  | c :: r => by rw [List.flatMap_cons, dec_quo1, dec_quo r]; rfl
theorem quo1_45 (c : UInt8) (r : Bs) : quo1 c ++ r ≠ [45] := by
  unfold quo1
  cases h : itsB c with
  | true => simp only [if_true, List.singleton_append]; intro e; exact (its_ne h).2.1 (List.cons.inj e).1
  | false => simp
/-- A text is read as itself, and what is read is written as it stood. -/
theorem unq_iff (s b : Bs) : unqL s = some b ↔ s = quoL b := by
  unfold unqL
  constructor
  · intro h
    split at h
    · next e => cases h; rw [e]; rfl
    · split at h
      · next b' hb =>
        split at h
        · next e => cases h; exact e.symm
        · cases h
      · cases h
  · rintro rfl
    by_cases hb : b = []
    · subst hb
      rfl
    · have e : quoL b = b.flatMap quo1 := by unfold quoL; rw [if_neg hb]
      have hn : quoL b ≠ [45] := by
        rw [e]
        cases b with
        | nil => exact absurd rfl hb
        | cons c r => rw [List.flatMap_cons]; exact quo1_45 c _
      rw [if_neg hn, e, dec_quo]
      simp only [← e, if_true]
theorem quo1_clean (c : UInt8) : ∀ x ∈ quo1 c, x ≠ 32 ∧ x ≠ 10 := by
  unfold quo1
  cases h : itsB c with
  | true => intro x hx; simp at hx; subst hx; exact (its_ne h).2.2
  | false =>
    intro x hx
    simp only [Bool.false_eq_true, if_false, List.mem_cons, List.not_mem_nil, or_false] at hx
    rcases hx with rfl | rfl | rfl
    · decide
    · exact hx_fin ⟨c.toNat / 16, by have := c.toNat_lt; omega⟩
    · exact hx_fin ⟨c.toNat % 16, Nat.mod_lt _ (by decide)⟩
theorem quo_clean (l : Bs) : ∀ x ∈ quoL l, x ≠ 32 ∧ x ≠ 10 := by
  unfold quoL
  split
  · intro x hx; simp at hx; subst hx; decide
  · intro x hx
    obtain ⟨c, _, h⟩ := List.mem_flatMap.1 hx
    exact quo1_clean c x h
def smallL (t : Bs) : Option Nat := match Lib.parseUintB 8 t with
  | .ok u => if Lib.decDigits u = t then some u else none
  | _ => none
def numL (t : Bs) : Option Int := match Lib.parseIntB 64 t with
  | .ok v => if Lib.itoa v = t then some v else none
  | _ => none
theorem digit_nat {d : Nat} (h : d < 10) : (UInt8.ofNat (48 + d)).toNat = 48 + d := by simp; omega
theorem parse_step {M acc d : Nat} (r : Bs) (hd : d < 10) (h : acc * 10 + d ≤ M) (hM : M < 18446744073709551616) : Lib.parseUintM M acc (UInt8.ofNat (48 + d) :: r) = Lib.parseUintM M (acc * 10 + d) r := by
  rw [Lib.parseUintM, digit_nat hd, if_pos (by omega), if_neg (by omega), show 48 + d - 48 = d by omega, if_neg (by omega)]
theorem parse_dec {M : Nat} (hM : M < 18446744073709551616) (r : Bs) : ∀ (k u : Nat), u ≤ k → u ≤ M → Lib.parseUintM M 0 (Lib.decDigits u ++ r) = Lib.parseUintM M u r := by
  intro k
  induction k generalizing r with
  | zero =>
    intro u hu _
    obtain rfl : u = 0 := by omega
    rw [Lib.decDigits, dif_pos (by decide), List.singleton_append, parse_step r (by decide) (by omega) hM]
  | succ k ih =>
    intro u hu h
    rw [Lib.decDigits]
    by_cases h10 : u < 10
    · rw [dif_pos h10, List.singleton_append, parse_step r h10 (by omega) hM, Nat.zero_mul, Nat.zero_add]
    · rw [dif_neg h10, List.append_assoc, ih _ (u / 10) (by omega) (by omega), List.singleton_append, parse_step r (Nat.mod_lt _ (by decide)) (by omega) hM]
      congr 1
      omega
theorem dec_ne (u : Nat) : Lib.decDigits u ≠ [] := by rw [Lib.decDigits]; split <;> simp
theorem dec_digits : ∀ (k u : Nat), u ≤ k → ∀ x ∈ Lib.decDigits u, 48 ≤ x.toNat ∧ x.toNat ≤ 57 := by
  intro k
  induction k with
  | zero =>
    intro u hu x hx
    obtain rfl : u = 0 := by omega
    rw [Lib.decDigits, dif_pos (by decide)] at hx
    simp at hx
    subst hx
    decide
  | succ k ih =>
    intro u hu x hx
    rw [Lib.decDigits] at hx
    split at hx
    · next h => simp only [List.mem_singleton] at hx; subst hx; rw [digit_nat h]; omega
    · rcases List.mem_append.1 hx with h | h
      · exact ih (u / 10) (by omega) x h
      · simp only [List.mem_singleton] at h; subst h; rw [digit_nat (Nat.mod_lt _ (by decide))]; omega
theorem parse_uint {B u : Nat} (hB : 2 ^ B ≤ 18446744073709551616) (hu : u < 2 ^ B) : Lib.parseUintB B (Lib.decDigits u) = .ok u := by
  unfold Lib.parseUintB
  rw [if_neg (dec_ne u)]
  have := parse_dec (M := 2 ^ B - 1) (by omega) [] u u (Nat.le_refl _) (by omega)
  rw [List.append_nil] at this
  rw [this, Lib.parseUintM]
theorem small_iff (t : Bs) (v : Nat) : smallL t = some v ↔ v < 256 ∧ t = Lib.decDigits v := by
  unfold smallL
  constructor
  · intro h
    split at h
    · next u hu =>
      split at h
      · next e => cases h; exact ⟨by have := Lib.parseUintB_le hu; omega, e.symm⟩
      · cases h
    · cases h
  · rintro ⟨hv, rfl⟩
    rw [parse_uint (by decide) (by omega)]
    simp
theorem parse_int (n : Int) (h0 : -9223372036854775808 ≤ n) (h1 : n ≤ 9223372036854775807) : Lib.parseIntB 64 (Lib.itoa n) = .ok n := by
  unfold Lib.itoa
  split
  · next h =>
    unfold Lib.parseIntB
    simp only [show (45 : UInt8).toNat = 45 from rfl, or_true, if_true, not_true, false_and, true_and]
    rw [parse_uint (by decide) (by omega)]
    simp only
    rw [if_neg (by simp), if_neg (by omega)]
    congr 1
    omega
  · next h =>
    have hd := dec_digits n.toNat n.toNat (Nat.le_refl _)
    cases hl : Lib.decDigits n.toNat with
    | nil => exact absurd hl (dec_ne _)
    | cons c r =>
      have hc := hd c (by rw [hl]; exact List.mem_cons_self ..)
      unfold Lib.parseIntB
      simp only
      rw [if_neg (by omega), ← hl, parse_uint (by decide) (by omega)]
      simp only
      rw [if_neg (by omega), if_neg (by omega), if_neg (by omega)]
      congr 1
      omega
theorem num_iff (t : Bs) (v : Int) : numL t = some v ↔ (-9223372036854775808 ≤ v ∧ v ≤ 9223372036854775807) ∧ t = Lib.itoa v := by
  unfold numL
  constructor
  · intro h
    split at h
    · next u hu =>
      split at h
      · next e => cases h; exact ⟨by have := Lib.parseIntB_bounds hu; omega, e.symm⟩
      · cases h
    · cases h
  · rintro ⟨hv, rfl⟩
    rw [parse_int v hv.1 hv.2]
    simp
theorem itoa_clean (n : Int) : ∀ x ∈ Lib.itoa n, x ≠ 32 ∧ x ≠ 10 := by
  have hd : ∀ u : Nat, ∀ x ∈ Lib.decDigits u, x ≠ 32 ∧ x ≠ 10 := fun u x hx => by
    have := dec_digits u u (Nat.le_refl _) x hx
    constructor <;> (rintro rfl; simp at this)
  unfold Lib.itoa
  split
  · intro x hx
    rcases List.mem_cons.1 hx with rfl | h
    · decide
    · exact hd _ x h
  · exact hd _
def splL (c : UInt8) : Bs → List Bs
  | [] => [[]]
  | x :: r => if x = c then [] :: splL c r else match splL c r with
    | [] => [[x]]
    | h :: t => (x :: h) :: t
def joiL (c : UInt8) : List Bs → Bs
  | [] => []
  | [x] => x
  | x :: y :: r => x ++ c :: joiL c (y :: r)
theorem spl_ne (c : UInt8) (s : Bs) : splL c s ≠ [] := by
  cases s with
  | nil => simp [splL]
  | cons x r => unfold splL; split; simp; split <;> simp
theorem spl_app {c : UInt8} : ∀ {p : Bs}, (∀ x ∈ p, x ≠ c) → ∀ r : Bs, splL c (p ++ c :: r) = p :: splL c r
  | [], _, r => by rw [List.nil_append, splL, if_pos rfl]
  | x :: p, h, r => by
    rw [List.cons_append, splL, if_neg (h x (List.mem_cons_self ..)), spl_app (fun y hy => h y (List.mem_cons_of_mem _ hy)) r]
theorem spl_one {c : UInt8} : ∀ {p : Bs}, (∀ x ∈ p, x ≠ c) → splL c p = [p]
  | [], _ => rfl
  | x :: p, h => by rw [splL, if_neg (h x (List.mem_cons_self ..)), spl_one (fun y hy => h y (List.mem_cons_of_mem _ hy))]
theorem spl_joi {c : UInt8} : ∀ {l : List Bs}, l ≠ [] → (∀ p ∈ l, ∀ x ∈ p, x ≠ c) → splL c (joiL c l) = l
  | [], h, _ => absurd rfl h
  | [x], _, h => spl_one (h x (List.mem_cons_self ..))
  | x :: y :: r, _, h => by
    rw [joiL, spl_app (h x (List.mem_cons_self ..)), spl_joi (by simp) (fun p hp => h p (List.mem_cons_of_mem _ hp))]
theorem joi_cons {c : UInt8} (x : Bs) {l : List Bs} (h : l ≠ []) : joiL c (x :: l) = x ++ c :: joiL c l := by
  cases l with
  | nil => exact absurd rfl h
  | cons y r => rfl
theorem joi_spl (c : UInt8) : ∀ s : Bs, joiL c (splL c s) = s
  | [] => rfl
  | x :: r => by
    have ih := joi_spl c r
    unfold splL
    split
    · next e => rw [joi_cons _ (spl_ne c r), ih, e]; rfl
    · cases h : splL c r with
      | nil => exact absurd h (spl_ne c r)
      | cons a t =>
        rw [h] at ih
        simp only
        cases t with
        | nil => simp only [joiL] at ih ⊢; rw [ih]
        | cons b t => simp only [joiL, List.cons_append] at ih ⊢; rw [ih]
theorem lib_join (c : UInt8) : ∀ l : List Bs, Lib.join l [c] = joiL c l
  | [] => rfl
  | [x] => Lib.join_one x [c]
  | x :: y :: r => by
    rw [joiL, ← lib_join c (y :: r), Lib.join_cons, Lib.join_cons, Lib.joinTail]
    simp [Lib.joinTail]
theorem lib_split (c : UInt8) : ∀ s : Bs, Lib.split s [c] = splL c s
  | [] => by unfold Lib.split; rw [Lib.count_one]; rfl
  | b :: l => by
    have ih := lib_split c l
    unfold splL
    by_cases h : b = c
    · subst h
      rw [if_pos rfl, ← ih]
      unfold Lib.split
      rw [Lib.count_cons_eq, Nat.add_comm, Lib.splitK]
      have e : Lib.index (b :: l) [b] = 0 := by simp [Lib.index, List.isPrefixOf]
      rw [e, if_neg (by decide)]
      simp
    · rw [if_neg h, ← ih]
      unfold Lib.split
      rw [Lib.count_cons_ne b c l h]
      have e : Lib.index (b :: l) [c] = if Lib.index l [c] == -1 then -1 else Lib.index l [c] + 1 := by
        have : ([c] : Bs).isPrefixOf (b :: l) = false := by simp [List.isPrefixOf, Ne.symm h]
        rw [Lib.index, this]
        rfl
      cases hk : Lib.count l [c] with
      | zero => rfl
      | succ k =>
        have hn : ¬ (Lib.index l [c] == -1) = true := fun q => by
          rw [Lib.count_miss (beq_iff_eq.1 q)] at hk
          cases hk
        have hge := Lib.index_ge l [c]
        have hn' : Lib.index l [c] ≠ -1 := fun q => hn (beq_iff_eq.2 q)
        rw [Lib.splitK, Lib.splitK, e, if_neg hn, if_neg (by rw [beq_iff_eq]; omega), if_neg hn]
        have ht : (Lib.index l [c] + 1).toNat = (Lib.index l [c]).toNat + 1 := by omega
        rw [ht]
        simp
end Go.Proofs.YtjjlodeiejobdaaDoor
namespace Go.Proofs.YtjjlodeiejobdaaDoor
/-- What a word says. -/
structure FormV where
  w : Bs
  d : Nat
  k : Nat
  t : Bs
  deriving DecidableEq
/-- All words, the last one first. -/
def FT : List FormV := [⟨[109, 101, 109, 98, 101, 114, 115], 12, 5, [97, 105, 115]⟩,
  ⟨[99, 97, 115], 12, 4, [97, 105, 121, 111, 110]⟩,
  ⟨[112, 117, 116], 12, 2, [97, 105, 121, 110]⟩,
  ⟨[100, 101, 108], 12, 3, [97, 105, 121]⟩,
  ⟨[103, 101, 116], 12, 1, [97, 105, 121]⟩,
  ⟨[116, 117, 114, 110], 11, 0, [97, 107]⟩,
  ⟨[114, 111, 111, 109], 10, 0, [97, 107]⟩,
  ⟨[102, 117, 115, 101], 9, 0, [97, 107]⟩,
  ⟨[99, 114, 97, 115, 104], 7, 0, [97, 107]⟩,
  ⟨[110, 117, 100, 103, 101], 13, 0, [97]⟩,
  ⟨[115, 116, 97, 114, 116], 8, 0, [97]⟩,
  ⟨[116, 105, 99, 107], 6, 0, [97]⟩,
  ⟨[104, 101, 97, 108], 5, 0, []⟩,
  ⟨[99, 117, 116], 4, 0, [97, 98]⟩,
  ⟨[100, 111, 117, 98, 108, 101], 3, 0, [97, 98, 107]⟩,
  ⟨[100, 114, 111, 112], 2, 0, [97, 98, 107]⟩,
  ⟨[100, 101, 108, 105, 118, 101, 114], 1, 0, [97, 98, 107]⟩]
/-- "invoke". -/
def INV : Bs := [105, 110, 118, 111, 107, 101]
/-- A step. -/
structure StpV where
  d : Nat
  a : Nat
  b : Nat
  k : Int
  cl : Nat
  sq : Nat
  kd : Nat
  y : Bs
  o : Bs
  n : Bs
  st : Nat
  deriving DecidableEq
structure StpV.Ok (s : StpV) : Prop where
  d : s.d < 256
  a : s.a < 256
  b : s.b < 256
  k : -9223372036854775808 ≤ s.k ∧ s.k ≤ 9223372036854775807
  cl : s.cl < 256
  sq : s.sq < 4294967296
  kd : s.kd < 256
  st : s.st < 256
def stp0 (d kd : Nat) : StpV := ⟨d, 0, 0, 0, 0, 0, kd, [], [], [], 0⟩
theorem stp0_ok {d kd : Nat} (h : d < 256) (h2 : kd < 256) : (stp0 d kd).Ok := ⟨h, (show (0 : Nat) < 256 by decide), (show (0 : Nat) < 256 by decide), (show (-9223372036854775808 : Int) ≤ 0 ∧ (0 : Int) ≤ 9223372036854775807 by decide), (show (0 : Nat) < 256 by decide), (show (0 : Nat) < 4294967296 by decide), h2, (show (0 : Nat) < 256 by decide)⟩
/-- What a line says of a step behind its word. -/
def fldL (s : StpV) (w : Bs) (c : UInt8) : Bs := if c = 97 then Lib.decDigits s.a else if c = 98 then Lib.decDigits s.b else if c = 107 then Lib.itoa s.k else if c = 121 then quoL s.y else if c = 111 then quoL s.o else if c = 110 then quoL s.n else if c = 115 then Lib.decDigits s.st else w
def takeL (w : Bs) (s : StpV) (c : UInt8) (t : Bs) : Option StpV := if c = 97 then (smallL t).map (fun v => { s with a := v }) else if c = 98 then (smallL t).map (fun v => { s with b := v }) else if c = 107 then (numL t).map (fun v => { s with k := v }) else if c = 121 then (unqL t).map (fun v => { s with y := v }) else if c = 111 then (unqL t).map (fun v => { s with o := v }) else if c = 110 then (unqL t).map (fun v => { s with n := v }) else if c = 115 then (smallL t).map (fun v => { s with st := v }) else if c = 105 then (if t = w then some s else none) else none
def takesL (w : Bs) : List (UInt8 × Bs) → StpV → Option StpV
  | [], s => some s
  | (c, t) :: r, s => (takeL w s c t).bind (takesL w r)
def isLet (c : UInt8) : Bool := c == 97 || c == 98 || c == 107 || c == 121 || c == 111 || c == 110 || c == 115 || c == 105
/-- A step, what is taken of it put into another one. -/
def keepC (cs : Bs) (s s0 : StpV) : StpV := { s0 with a := if 97 ∈ cs then s.a else s0.a, b := if 98 ∈ cs then s.b else s0.b, k := if 107 ∈ cs then s.k else s0.k, y := if 121 ∈ cs then s.y else s0.y, o := if 111 ∈ cs then s.o else s0.o, n := if 110 ∈ cs then s.n else s0.n, st := if 115 ∈ cs then s.st else s0.st }
theorem take_some {w : Bs} {s s1 : StpV} {c : UInt8} {t : Bs} (h : takeL w s c t = some s1) (hs : s.Ok) : s1.Ok ∧ t = fldL s1 w c ∧ s1 = keepC [c] s1 s := by
  unfold takeL at h
  unfold fldL
  split at h
  · next hc =>
    subst hc
    obtain ⟨v, hv, rfl⟩ := Option.map_eq_some_iff.1 h
    obtain ⟨h1, rfl⟩ := (small_iff t v).1 hv
    exact ⟨{ hs with a := h1 }, rfl, rfl⟩
  · split at h
    · next hc =>
      subst hc
      obtain ⟨v, hv, rfl⟩ := Option.map_eq_some_iff.1 h
      obtain ⟨h1, rfl⟩ := (small_iff t v).1 hv
      exact ⟨{ hs with b := h1 }, rfl, rfl⟩
    · split at h
      · next hc =>
        subst hc
        obtain ⟨v, hv, rfl⟩ := Option.map_eq_some_iff.1 h
        obtain ⟨h1, rfl⟩ := (num_iff t v).1 hv
        exact ⟨{ hs with k := h1 }, rfl, rfl⟩
      · split at h
        · next hc =>
          subst hc
          obtain ⟨v, hv, rfl⟩ := Option.map_eq_some_iff.1 h
          obtain rfl := (unq_iff t v).1 hv
          exact ⟨{ hs with }, rfl, rfl⟩
        · split at h
          · next hc =>
            subst hc
            obtain ⟨v, hv, rfl⟩ := Option.map_eq_some_iff.1 h
            obtain rfl := (unq_iff t v).1 hv
            exact ⟨{ hs with }, rfl, rfl⟩
          · split at h
            · next hc =>
              subst hc
              obtain ⟨v, hv, rfl⟩ := Option.map_eq_some_iff.1 h
              obtain rfl := (unq_iff t v).1 hv
              exact ⟨{ hs with }, rfl, rfl⟩
            · split at h
              · next hc =>
                subst hc
                obtain ⟨v, hv, rfl⟩ := Option.map_eq_some_iff.1 h
                obtain ⟨h1, rfl⟩ := (small_iff t v).1 hv
                exact ⟨{ hs with st := h1 }, rfl, rfl⟩
              · split at h
                · next hc =>
                  subst hc
                  split at h
                  · next ht => cases h; exact ⟨hs, ht, rfl⟩
                  · cases h
                · cases h
theorem take_back {w : Bs} {s s1 : StpV} {c : UInt8} (hc : isLet c = true) (h1 : s1.Ok) : takeL w s c (fldL s1 w c) = some (keepC [c] s1 s) := by
  unfold isLet at hc
  simp only [Bool.or_eq_true, beq_iff_eq] at hc
  rcases hc with ((((((rfl | rfl) | rfl) | rfl) | rfl) | rfl) | rfl) | rfl
  · show (smallL (Lib.decDigits s1.a)).map _ = _; rw [(small_iff _ _).2 ⟨h1.a, rfl⟩]; rfl
  · show (smallL (Lib.decDigits s1.b)).map _ = _; rw [(small_iff _ _).2 ⟨h1.b, rfl⟩]; rfl
  · show (numL (Lib.itoa s1.k)).map _ = _; rw [(num_iff _ _).2 ⟨h1.k, rfl⟩]; rfl
  · show (unqL (quoL s1.y)).map _ = _; rw [(unq_iff _ _).2 rfl]; rfl
  · show (unqL (quoL s1.o)).map _ = _; rw [(unq_iff _ _).2 rfl]; rfl
  · show (unqL (quoL s1.n)).map _ = _; rw [(unq_iff _ _).2 rfl]; rfl
  · show (smallL (Lib.decDigits s1.st)).map _ = _; rw [(small_iff _ _).2 ⟨h1.st, rfl⟩]; rfl
  · show (if w = w then some s else none) = _; rw [if_pos rfl]; rfl
theorem keep_cons {c : UInt8} {cs : Bs} (hn : c ∉ cs) (s s0 : StpV) : keepC cs s (keepC [c] s s0) = keepC (c :: cs) s s0 := by
  unfold keepC
  simp only [List.mem_cons, List.not_mem_nil, or_false]
  congr 1 <;> (split <;> split <;> first | rfl | (split <;> first | rfl | (exfalso; simp_all; done)) | (exfalso; simp_all; done) | simp_all)
theorem fld_same {w : Bs} {c : UInt8} {s s1 : StpV} (hl : isLet c = true) (h : keepC [c] s s1 = s1) : fldL s1 w c = fldL s w c := by
  unfold isLet at hl
  simp only [Bool.or_eq_true, beq_iff_eq] at hl
  have ha := congrArg StpV.a h
  have hb := congrArg StpV.b h
  have hk := congrArg StpV.k h
  have hy := congrArg StpV.y h
  have ho := congrArg StpV.o h
  have hn := congrArg StpV.n h
  have hs := congrArg StpV.st h
  unfold keepC at ha hb hk hy ho hn hs
  rcases hl with ((((((rfl | rfl) | rfl) | rfl) | rfl) | rfl) | rfl) | rfl <;> simp_all [fldL]
theorem keep_other {c : UInt8} {cs : Bs} (hc : isLet c = true) (hn : c ∉ cs) (s s0 : StpV) : keepC [c] (keepC cs s s0) s0 = s0 := by
  unfold isLet at hc
  simp only [Bool.or_eq_true, beq_iff_eq] at hc
  rcases hc with ((((((rfl | rfl) | rfl) | rfl) | rfl) | rfl) | rfl) | rfl <;> simp_all [keepC]
theorem takes_some {w : Bs} : ∀ (cs : Bs) (ts : List Bs) (s s1 : StpV), cs.Nodup → (∀ c ∈ cs, isLet c = true) → cs.length = ts.length → s.Ok → takesL w (cs.zip ts) s = some s1 → s1.Ok ∧ ts = cs.map (fldL s1 w) ∧ s1 = keepC cs s1 s
  | [], [], s, s1, _, _, _, hs, h => by
    cases h
    exact ⟨hs, rfl, by simp [keepC]⟩
  | [], _ :: _, _, _, _, _, hl, _, _ => by cases hl
  | _ :: _, [], _, _, _, _, hl, _, _ => by cases hl
  | c :: cs, t :: ts, s, s1, hn, hc, hl, hs, h => by
    rw [List.zip_cons_cons, takesL] at h
    obtain ⟨s2, h1, h2⟩ := Option.bind_eq_some_iff.1 h
    obtain ⟨hs2, ht, hk⟩ := take_some h1 hs
    obtain ⟨hs1, hts, hk1⟩ := takes_some cs ts s2 s1 (List.nodup_cons.1 hn).2 (fun x hx => hc x (List.mem_cons_of_mem _ hx)) (by simpa using hl) hs2 h2
    have hcn := (List.nodup_cons.1 hn).1
    have hcl := hc c (List.mem_cons_self ..)
    have h3 : keepC [c] s1 s2 = s2 := by
      rw [hk1]
      exact keep_other hcl hcn s1 s2
    have hf : fldL s2 w c = fldL s1 w c := fld_same hcl h3
    refine ⟨hs1, by rw [List.map_cons, ht, hf, hts], ?_⟩
    have h4 : keepC [c] s1 s = s2 := by
      rw [← h3]
      conv => rhs; rw [hk]
      unfold keepC
      simp only [List.mem_cons, List.not_mem_nil, or_false]
      congr 1 <;> split <;> rfl
    rw [← keep_cons hcn, h4]
    exact hk1
theorem takes_back {w : Bs} : ∀ (cs : Bs) (s s1 : StpV), cs.Nodup → (∀ c ∈ cs, isLet c = true) → s1.Ok → takesL w (cs.zip (cs.map (fldL s1 w))) s = some (keepC cs s1 s)
  | [], s, s1, _, _, _ => by
    show some s = _
    simp [keepC]
  | c :: cs, s, s1, hn, hc, h1 => by
    rw [List.map_cons, List.zip_cons_cons, takesL, take_back (hc c (List.mem_cons_self ..)) h1, Option.bind_some, takes_back cs _ s1 (List.nodup_cons.1 hn).2 (fun x hx => hc x (List.mem_cons_of_mem _ hx)) h1, keep_cons (List.nodup_cons.1 hn).1]
/-- The form of a line's pieces. -/
def formL (ws : List Bs) : Option FormV :=
  if ws.headD [] = INV ∧ ws.length < 3 then none else match FT.find? (fun f => decide (f.w = if ws.headD [] = INV then ws.getD 2 [] else ws.headD [])) with
    | some f => if decide (f.d = 12) = decide (ws.headD [] = INV) then some f else none
    | none => none
/-- The step of a line. -/
def rdL (line : Bs) : Option StpV := match formL (splL 32 line) with
  | some f => if (splL 32 line).tail.length = f.t.length then takesL f.w (f.t.zip (splL 32 line).tail) (stp0 f.d f.k) else none
  | none => none
def formS (d kd : Nat) : Option FormV := FT.find? (fun f => decide (f.d = d ∧ f.k = kd))
def lineL (f : FormV) (s : StpV) : Bs := joiL 32 ((if f.d = 12 then INV else f.w) :: f.t.map (fldL s f.w))
/-- The line of a step that can be said. -/
def sayL (s : StpV) : Option Bs := match formS s.d s.kd with
  | some f => if keepC f.t s (stp0 f.d f.k) = s then some (lineL f s) else none
  | none => none
theorem ft_ok : ∀ f ∈ FT, f.t.Nodup ∧ (∀ c ∈ f.t, isLet c = true) ∧ f.d < 256 ∧ f.k < 256 ∧ (∀ x ∈ f.w, x ≠ 32 ∧ x ≠ 10) ∧ formS f.d f.k = some f ∧ FT.find? (fun g => decide (g.w = f.w)) = some f ∧ (f.d = 12 → ∃ r, f.t = 97 :: 105 :: r) ∧ (f.d ≠ 12 → f.w ≠ INV) := by
  have h : ∀ f ∈ FT, f.t.Nodup ∧ (∀ c ∈ f.t, isLet c = true) ∧ f.d < 256 ∧ f.k < 256 ∧ (∀ x ∈ f.w, x ≠ 32 ∧ x ≠ 10) ∧ formS f.d f.k = some f ∧ FT.find? (fun g => decide (g.w = f.w)) = some f ∧ (f.d = 12 → f.t.take 2 = [97, 105]) ∧ (f.d ≠ 12 → f.w ≠ INV) := by decide +kernel
  intro f hf
  obtain ⟨h1, h2, h3, h4, h5, h6, h7, h8, h9⟩ := h f hf
  exact ⟨h1, h2, h3, h4, h5, h6, h7, fun hd => ⟨f.t.drop 2, by have := List.take_append_drop 2 f.t; rw [h8 hd] at this; exact this.symm⟩, h9⟩
theorem find_mem {p : FormV → Bool} {f : FormV} (h : FT.find? p = some f) : f ∈ FT ∧ p f = true := ⟨List.mem_of_find?_eq_some h, List.find?_some h⟩
theorem fld_clean (s : StpV) {w : Bs} (hw : ∀ x ∈ w, x ≠ 32 ∧ x ≠ 10) (c : UInt8) : ∀ x ∈ fldL s w c, x ≠ 32 ∧ x ≠ 10 := by
  have hd : ∀ u : Nat, ∀ x ∈ Lib.decDigits u, x ≠ 32 ∧ x ≠ 10 := fun u x hx => by
    have := dec_digits u u (Nat.le_refl _) x hx
    constructor <;> (rintro rfl; simp at this)
  unfold fldL
  repeat' split
  · exact hd _
  · exact hd _
  · exact itoa_clean _
  · exact quo_clean _
  · exact quo_clean _
  · exact quo_clean _
  · exact hd _
  · exact hw
theorem rd_some {line : Bs} {s : StpV} (h : rdL line = some s) : s.Ok ∧ sayL s = some line := by
  unfold rdL at h
  split at h
  · next f hf =>
    split at h
    · next hl =>
      unfold formL at hf
      split at hf
      · cases hf
      · split at hf
        · next g hg =>
          split at hf
          · next hi =>
            cases hf
            obtain ⟨hm, hp⟩ := find_mem hg
            obtain ⟨h1, h2, h3, h4, h5, h6, h7, h8, h9⟩ := ft_ok f hm
            obtain ⟨q1, q2, q3⟩ := takes_some f.t _ _ s h1 h2 hl.symm (stp0_ok h3 h4) h
            have hd : s.d = f.d := by rw [q3]; rfl
            have hk : s.kd = f.k := by rw [q3]; rfl
            refine ⟨q1, ?_⟩
            unfold sayL
            rw [hd, hk, h6]
            simp only
            rw [if_pos q3.symm]
            congr 1
            unfold lineL
            rw [← q2]
            cases hs : splL 32 line with
            | nil => exact absurd hs (spl_ne 32 line)
            | cons w0 r =>
              rw [hs] at hi hp
              simp only [List.headD_cons] at hi hp
              have hw : (if f.d = 12 then INV else f.w) = w0 := by
                by_cases hd : f.d = 12
                · rw [if_pos hd]
                  have : w0 = INV := of_decide_eq_true (hi.symm.trans (decide_eq_true hd))
                  exact this.symm
                · rw [if_neg hd]
                  have : ¬ w0 = INV := of_decide_eq_false (hi.symm.trans (decide_eq_false hd))
                  simpa [this] using hp
              rw [hw]
              show joiL 32 (w0 :: r) = line
              rw [← hs, joi_spl]
          · cases hf
        · cases hf
    · cases h
  · cases h
theorem say_rd {line : Bs} {s : StpV} (hs : s.Ok) (h : sayL s = some line) : rdL line = some s := by
  unfold sayL at h
  split at h
  · next f hf =>
    split at h
    · next hk =>
      cases h
      obtain ⟨hm, hp⟩ := find_mem hf
      obtain ⟨h1, h2, h3, h4, h5, h6, h7, h8, h9⟩ := ft_ok f hm
      have hsp : splL 32 (lineL f s) = (if f.d = 12 then INV else f.w) :: f.t.map (fldL s f.w) := by
        unfold lineL
        refine spl_joi (by simp) fun p hp x hx => ?_
        rcases List.mem_cons.1 hp with rfl | hp
        · split at hx
          · unfold INV at hx
            simp only [List.mem_cons, List.not_mem_nil, or_false] at hx
            rcases hx with rfl | rfl | rfl | rfl | rfl | rfl <;> decide
          · exact (h5 x hx).1
        · obtain ⟨c, _, rfl⟩ := List.mem_map.1 hp
          exact (fld_clean s h5 c x hx).1
      have hform : formL (splL 32 (lineL f s)) = some f := by
        rw [hsp]
        unfold formL
        by_cases hd : f.d = 12
        · obtain ⟨r, hr⟩ := h8 hd
          simp only [hd, if_true, List.headD_cons, true_and, hr, List.map_cons, List.length_cons]
          rw [if_neg (by omega)]
          rw [show (INV :: fldL s f.w 97 :: fldL s f.w 105 :: List.map (fldL s f.w) r).getD 2 [] = f.w from rfl, h7]
          simp [hd]
        · simp only [hd, if_false, List.headD_cons]
          rw [if_neg (fun q => h9 hd q.1), if_neg (h9 hd), h7]
          simp [hd, h9 hd]
      unfold rdL
      rw [hform]
      simp only
      rw [if_pos (by rw [hsp]; simp), hsp, List.tail_cons, takes_back f.t _ s h1 h2 hs, hk]
    · cases h
  · cases h
theorem rd_iff {line : Bs} {s : StpV} (hs : s.Ok) : rdL line = some s ↔ sayL s = some line := ⟨fun h => (rd_some h).2, say_rd hs⟩
end Go.Proofs.YtjjlodeiejobdaaDoor
namespace Go.Proofs.YtjjlodeiejobdaaDoor
open Go.RowKit
def digV (c : UInt8) : Int := if 48 ≤ c.toNat ∧ c.toNat ≤ 57 then (c.toNat : Int) - 48 else if 97 ≤ c.toNat ∧ c.toNat ≤ 102 then (c.toNat : Int) - 87 else -1
theorem digV_range (c : UInt8) : -1 ≤ digV c ∧ digV c ≤ 15 := by unfold digV; split <;> (try split) <;> omega
theorem dig_fin : ∀ n : Fin 16, digV (hxB n.val) = (n.val : Int) := by decide
def byteV (a b : UInt8) : UInt8 := UInt8.ofNat (16 * digV a + digV b).toNat
def unGo : Bs → Option Bs
  | [] => some []
  | c :: r => if itsB c = true then (unGo r).map (c :: ·) else if c = 37 then
      match r with
      | a :: b :: r' => if 0 ≤ digV a ∧ 0 ≤ digV b ∧ itsB (byteV a b) = false then (unGo r').map (byteV a b :: ·) else none
      | _ => none
    else none
/-- The text that the document takes out of a form. -/
def unV (q : Bs) : Bs := if q = [45] then [] else (unGo q).getD []
theorem un_plain {c : UInt8} (r : Bs) (h : itsB c = true) : unGo (c :: r) = (unGo r).map (c :: ·) := by
  conv => lhs; unfold unGo
  rw [if_pos h]
theorem un_hex {a b : UInt8} (r : Bs) : unGo (37 :: a :: b :: r) = if 0 ≤ digV a ∧ 0 ≤ digV b ∧ itsB (byteV a b) = false then (unGo r).map (byteV a b :: ·) else none := by
  conv => lhs; unfold unGo
  rw [if_neg (by decide), if_pos rfl]
theorem un_short {r : Bs} (h : r.length < 2) : unGo (37 :: r) = none := by
  unfold unGo
  match r, h with
  | [], _ => rfl
  | [a], _ => rfl
theorem un_bad {c : UInt8} (r : Bs) (h : itsB c = false) (hc : c ≠ 37) : unGo (c :: r) = none := by
  conv => lhs; unfold unGo
  rw [if_neg (by rw [h]; decide), if_neg hc]
theorem un_quo1 (c : UInt8) (r : Bs) : unGo (quo1 c ++ r) = (unGo r).map (c :: ·) := by
  unfold quo1
  cases h : itsB c with
  | true => exact un_plain r h
  | false =>
    have h1 := dig_fin ⟨c.toNat / 16, by have := c.toNat_lt; omega⟩
    have h2 := dig_fin ⟨c.toNat % 16, Nat.mod_lt _ (by decide)⟩
    simp only at h1 h2
    have hb : byteV (hxB (c.toNat / 16)) (hxB (c.toNat % 16)) = c := by
      unfold byteV
      rw [h1, h2, show (16 * ((c.toNat / 16 : Nat) : Int) + ((c.toNat % 16 : Nat) : Int)).toNat = c.toNat by omega, UInt8.ofNat_toNat]
    show unGo (37 :: hxB (c.toNat / 16) :: hxB (c.toNat % 16) :: r) = _
    rw [un_hex, hb, if_pos ⟨by rw [h1]; omega, by rw [h2]; omega, h⟩]
theorem un_flat : ∀ l : Bs, unGo (l.flatMap quo1) = some l
  | [] => rfl
  | c :: r => by rw [List.flatMap_cons, un_quo1, un_flat r]; rfl
theorem unV_quo (b : Bs) : unV (quoL b) = b := by
  unfold unV
  by_cases hb : b = []
  · subst hb; rfl
  · have e : quoL b = b.flatMap quo1 := by unfold quoL; rw [if_neg hb]
    have hn : quoL b ≠ [45] := by
      rw [e]
      cases b with
      | nil => exact absurd rfl hb
      | cons c r => rw [List.flatMap_cons]; exact quo1_45 c _
    rw [if_neg hn, e, un_flat]
    rfl
def digB (c : UInt8) : Bool := decide (48 ≤ c.toNat) && decide (c.toNat ≤ 57)
def stepZ (n : Int) (c : UInt8) : Int := wrap64 (wrap64 (10 * n) - ((c.toNat : Int) - 48))
def numGo (n : Int) : Bs → Option Int
  | [] => some n
  | c :: r => if digB c then numGo (stepZ n c) r else none
def numQ (q : Bs) : Option Int := match q with
  | [] => some 0
  | c :: r => if c = 45 then numGo 0 r else numGo 0 (c :: r)
def negB (q : Bs) : Bool := match q with
  | [] => false
  | c :: _ => decide (c = 45)
/-- The number that the document takes out of a form. -/
def numV (q : Bs) : Int := if 20 < q.length then 0 else match numQ q with
  | some n => if negB q then n else wrap64 (-n)
  | none => 0
/-- .. of a byte. -/
def smV (q : Bs) : Nat := (numV q % 256).toNat
theorem smV_lt (q : Bs) : smV q < 256 := by unfold smV; omega
theorem wrap64_id {x : Int} (h : -9223372036854775808 ≤ x ∧ x ≤ 9223372036854775807) : wrap64 x = x := by unfold wrap64; omega
theorem wrap64_range (x : Int) : -9223372036854775808 ≤ wrap64 x ∧ wrap64 x ≤ 9223372036854775807 := by unfold wrap64; omega
theorem num_range (q : Bs) : -9223372036854775808 ≤ numV q ∧ numV q ≤ 9223372036854775807 := by
  unfold numV
  split
  · omega
  · have hr : ∀ (r : Bs) (n m : Int), (-9223372036854775808 ≤ n ∧ n ≤ 9223372036854775807) → numGo n r = some m → -9223372036854775808 ≤ m ∧ m ≤ 9223372036854775807 := by
      intro r
      induction r with
      | nil => intro n m hn h; cases h; exact hn
      | cons c r ih =>
        intro n m _ h
        rw [numGo] at h
        split at h
        · exact ih _ _ (wrap64_range _) h
        · cases h
    split
    · next n hn =>
      split
      · unfold numQ at hn
        split at hn
        · cases hn; omega
        · split at hn
          · exact hr _ _ _ (by omega) hn
          · exact hr _ _ _ (by omega) hn
      · exact wrap64_range _
    · omega
theorem numGo_app : ∀ (l r : Bs) (n m : Int), numGo n l = some m → numGo n (l ++ r) = numGo m r
  | [], _, _, _, h => by cases h; rfl
  | c :: l, r, n, m, h => by
    rw [List.cons_append, numGo]
    rw [numGo] at h
    split at h
    · next hc => rw [if_pos hc]; exact numGo_app l r _ m h
    · cases h
theorem stepZ_eq {n : Int} {d : Nat} (hd : d < 10) (h : -9223372036854775808 ≤ 10 * n - (d : Int) ∧ n ≤ 0) : stepZ n (UInt8.ofNat (48 + d)) = 10 * n - (d : Int) := by
  unfold stepZ
  rw [digit_nat hd, wrap64_id (x := 10 * n) (by omega), wrap64_id (by omega)]
  omega
theorem numGo_dec : ∀ (k u : Nat), u ≤ k → u ≤ 9223372036854775808 → numGo 0 (Lib.decDigits u) = some (-(u : Int)) := by
  intro k
  induction k with
  | zero =>
    intro u hu _
    obtain rfl : u = 0 := by omega
    rw [Lib.decDigits, dif_pos (by decide), numGo, if_pos (by decide), numGo, stepZ_eq (by decide) (by decide)]
    rfl
  | succ k ih =>
    intro u hu hM
    rw [Lib.decDigits]
    split
    · next h =>
      rw [numGo, if_pos (by unfold digB; rw [digit_nat h]; simp; omega), numGo]
      rw [stepZ_eq h (by omega)]
      congr 1
      omega
    · next h =>
      have hd : u % 10 < 10 := Nat.mod_lt _ (by decide)
      rw [numGo_app _ _ _ _ (ih (u / 10) (by omega) (by omega)), numGo, if_pos (by unfold digB; rw [digit_nat hd]; simp; omega), numGo]
      rw [stepZ_eq hd (by omega)]
      congr 1
      omega
theorem dec_head (u : Nat) : ∃ c r, Lib.decDigits u = c :: r ∧ c ≠ 45 := by
  cases h : Lib.decDigits u with
  | nil => exact (dec_ne u h).elim
  | cons c r =>
    refine ⟨c, r, rfl, ?_⟩
    have := dec_digits u u (Nat.le_refl _) c (by rw [h]; exact List.mem_cons_self ..)
    rintro rfl
    simp at this
theorem nDig_le : ∀ (k u : Nat), u < 10 ^ k → 1 ≤ k → Lib.nDigits u ≤ k
  | 0, _, _, h => by omega
  | k + 1, u, hu, _ => by
    rw [Lib.nDigits]
    split
    · omega
    · have h2 : u / 10 < 10 ^ k := by rw [Nat.pow_succ] at hu; omega
      have hk : 1 ≤ k := by
        rcases Nat.eq_zero_or_pos k with rfl | hk
        · simp at h2; omega
        · exact hk
      have := nDig_le k (u / 10) h2 hk
      omega
theorem numV_itoa (n : Int) (h0 : -9223372036854775808 ≤ n) (h1 : n ≤ 9223372036854775807) : numV (Lib.itoa n) = n := by
  unfold Lib.itoa
  by_cases hn : n < 0
  · rw [if_pos hn]
    have hl : (45 :: Lib.decDigits n.natAbs).length ≤ 20 := by
      rw [List.length_cons, Lib.decDigits_length]
      have := nDig_le 19 n.natAbs (by omega) (by decide)
      omega
    unfold numV
    rw [if_neg (by omega)]
    show (match numGo 0 (Lib.decDigits n.natAbs) with | some m => (if negB (45 :: Lib.decDigits n.natAbs) then m else wrap64 (-m)) | none => 0) = n
    rw [numGo_dec _ _ (Nat.le_refl _) (by omega)]
    show -(n.natAbs : Int) = n
    omega
  · rw [if_neg hn]
    have hl : (Lib.decDigits n.toNat).length ≤ 20 := by
      rw [Lib.decDigits_length]
      have := nDig_le 19 n.toNat (by omega) (by decide)
      omega
    obtain ⟨c, r, hc, hne⟩ := dec_head n.toNat
    unfold numV
    rw [if_neg (by omega), show numQ (Lib.decDigits n.toNat) = numGo 0 (Lib.decDigits n.toNat) by rw [hc]; unfold numQ; simp only; rw [if_neg hne], numGo_dec _ _ (Nat.le_refl _) (by omega), show negB (Lib.decDigits n.toNat) = false by rw [hc]; unfold negB; simp only; exact decide_eq_false hne]
    show wrap64 (-(-(n.toNat : Int))) = n
    rw [wrap64_id (by omega)]
    omega
theorem smV_dec (u : Nat) (h : u < 256) : smV (Lib.decDigits u) = u := by
  have h2 := numV_itoa (u : Int) (by omega) (by omega)
  have e : Lib.itoa (u : Int) = Lib.decDigits u := by unfold Lib.itoa; rw [if_neg (by omega)]; rfl
  rw [e] at h2
  unfold smV
  rw [h2]
  omega
end Go.Proofs.YtjjlodeiejobdaaDoor
