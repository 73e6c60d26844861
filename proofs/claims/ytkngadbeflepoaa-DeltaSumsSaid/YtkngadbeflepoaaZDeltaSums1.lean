/- A law on regions that draw their order: what only reads is taken as early as it may come up, in every world of a class; what turns the world (a call, an alloc, a store) comes up alone, and leaves a class of worlds within the one before. No condition. -/
import Derived.OrdersHeld
import Derived.Test.YtkngadbeflepoaaZDeltaLeads43
import Derived.Test.YtkngadbeflepoaaZDeltaSums0
import Derived.Test.YtkngadbeflepoaaZDeltaLeads46
namespace Go.Proofs.Ytkngadbeflepoaa.Reg
open Go
section
variable {P : Program} {ops : Array Oper} {Q : Exit → Act → World → Prop} {md : Region.Mode}
/-- Behind one operation: a class within the one before (of the last operation of all: any class). -/
def Into (b : Bool) (C : World → Prop) (K : (World → Prop) → Act → Prop) (a : Act) (w : World) : Prop := ∃ C' : World → Prop, C' w ∧ (b = true ∨ ∀ x, C' x → C x) ∧ K C' a
theorem Into.mono {b : Bool} {C : World → Prop} {K K' : (World → Prop) → Act → Prop} (h : ∀ C' a, (b = true ∨ ∀ x, C' x → C x) → K C' a → K' C' a) {a : Act} {w : World} (hh : Into b C K a w) : Into b C K' a w :=
  let ⟨C', h1, h2, h3⟩ := hh
  ⟨C', h1, h2, h _ _ h2 h3⟩
/-- What number j waits for. -/
def onsOf (md : Region.Mode) (ops : Array Oper) (j : Nat) : List Nat := match ops[j]? with
  | some o => (o.after.toList.filter (Region.binds md)).map (·.on)
  | none => []
def anc (md : Region.Mode) (ops : Array Oper) : Nat → List Nat → List Nat
  | 0, l => l
  | n + 1, l => anc md ops n (l ++ l.flatMap (onsOf md ops)).eraseDups
/-- What a listed operation waits for is listed. -/
def Closed (md : Region.Mode) (ops : Array Oper) (listed : Array Bool) : Prop := ∀ j, listed.getD j false = true → ∀ e ∈ onsOf md ops j, listed.getD e false = true
theorem anc_listed {listed : Array Bool} (h : Closed md ops listed) : ∀ (n : Nat) (l : List Nat), (∀ j ∈ l, listed.getD j false = true) → ∀ j ∈ anc md ops n l, listed.getD j false = true
  | 0, _, hl, j, hj => hl j hj
  | n + 1, l, hl, j, hj => anc_listed h n _ (fun k hk => by
      rw [List.mem_eraseDups, List.mem_append, List.mem_flatMap] at hk
      rcases hk with hk | ⟨q, hq, hk⟩
      · exact hl k hk
      · exact h q (hl q hq) k hk) j hj
theorem ready_ons {listed : Array Bool} {j : Nat} (h : j ∈ Region.ready md ops listed) : ∀ e ∈ onsOf md ops j, listed.getD e false = true := by
  obtain ⟨_, o, ho, hall⟩ := mem_ready.1 h
  intro e he
  simp only [onsOf, ho, List.mem_map, List.mem_filter] at he
  obtain ⟨q, ⟨h1, h2⟩, rfl⟩ := he
  exact hall q (by simpa using h1) h2
theorem getD_set_grow {listed : Array Bool} {i j : Nat} (h : listed.getD j false = true) : (listed.setIfInBounds i true).getD j false = true := getD_set_true h
theorem Closed.set {listed : Array Bool} {i : Nat} (h : Closed md ops listed) (hi : i ∈ Region.ready md ops listed) : Closed md ops (listed.setIfInBounds i true) := by
  intro j hj e he
  by_cases hij : i = j
  · subst hij; exact getD_set_grow (ready_ons hi e he)
  · rw [getD_set_ne false hij] at hj
    exact getD_set_grow (h j hj e he)
theorem Closed.none (n : Nat) : Closed md ops (Array.replicate n false) := by
  intro j hj
  have : (Array.replicate n false).getD j false = false := by
    simp only [Array.getD_eq_getD_getElem?, Array.getElem?_replicate]
    split <;> rfl
  rw [this] at hj
  cases hj
theorem bar_not {bar : Nat → Bool} {listed : Array Bool} {i j : Nat} (h : Closed md ops listed) (hj : j ∈ Region.ready md ops listed) (hi : i ∈ Region.ready md ops listed)
    (hb : bar j = true → i ∈ anc md ops 8 (onsOf md ops j)) : bar j = false := by
  rw [Bool.eq_false_iff]
  intro hbj
  obtain ⟨h0, o, ho, _⟩ := mem_ready.1 hi
  have h4 := anc_listed h 8 _ (ready_ons hj) i (hb hbj)
  rcases Nat.lt_or_ge i listed.size with h' | h'
  · simp [h'] at h0 h4; rw [h0] at h4; cases h4
  · simp [Array.getElem?_eq_none h'] at h4
def kOp (bar : Nat → Bool) (P : Program) (_md : Region.Mode) (ops : Array Oper) (Q : Exit → Act → World → Prop) (i : Nat) (C : World → Prop) (K : (World → Prop) → Act → Prop) (a : Act) : Prop :=
  ∀ w, C w → wpOp P ops Q i (Into (bar i) C K) a w
theorem kOp_mono {bar : Nat → Bool} {i : Nat} {C : World → Prop} {K K' : (World → Prop) → Act → Prop} {a : Act} (h : ∀ C' a, K C' a → K' C' a) (hh : kOp bar P md ops Q i C K a) : kOp bar P md ops Q i C K' a :=
  fun w hw => wpOp_mono (fun _ _ h' => Into.mono (fun C' a _ => h C' a) h') (hh w hw)
theorem yieldsIf_sub {C C' : World → Prop} {o : Oper} {v : Value} {a : Act} (h : ∀ x, C' x → C x) (hy : YieldsIf P ops C o v a) : YieldsIf P ops C' o v a :=
  hy.imp (fun ⟨hw, hv⟩ => ⟨hw, fun w hw' => hv w (h w hw')⟩) id
theorem kOp_of_yields {bar : Nat → Bool} {i : Nat} {o : Oper} {v : Value} {C : World → Prop} {K : (World → Prop) → Act → Prop} {a : Act} (hi : ops[i]? = some o) (hy : YieldsIf P ops C o v a) (h : K C (a.put o.dst v)) : kOp bar P md ops Q i C K a :=
  fun _ hw => hy.wpOp hi hw ⟨C, hw, .inr fun _ h => h, h⟩
theorem kOp_put {bar : Nat → Bool} {j : Nat} {oi oj : Oper} {v : Value} {C : World → Prop} (hj : ops[j]? = some oj) (hap : oi.apart ops oj = true)
    (hsi : ∀ cs b, oi.op ≠ .select cs b) (hsj : ∀ cs b, oj.op ≠ .select cs b)
    (hQ : ∀ c a w, Q (.panic c) (a.put oi.dst v) w → Q (.panic c) a w) {K : (World → Prop) → Act → Prop} {a : Act}
    (hb : bar j = false) (hy : YieldsIf P ops C oi v a) (h : kOp bar P md ops Q j C K (a.put oi.dst v)) :
    kOp bar P md ops Q j C (fun C' a' => YieldsIf P ops C' oi v a' ∧ K C' (a'.put oi.dst v)) a := fun w hw =>
  wpOp_mono (fun _ _ ⟨h1, C', h2, h3, h4⟩ => ⟨C', h2, h3, yieldsIf_sub (h3.resolve_left (by simp [hb])) h1, h4⟩) (wpOp_putIf hj hap hsi hsj hQ hy (h w hw))
def wpAnyK (bar : Nat → Bool) (P : Program) (md : Region.Mode) (ops : Array Oper) (Q : Exit → Act → World → Prop) : Nat → Array Bool → (World → Prop) → Act → Prop
  | 0, listed, C, a => Region.ready md ops listed = [] ∧ ∀ w, C w → Q .normal a w
  | fuel + 1, listed, C, a => (Region.ready md ops listed = [] → ∀ w, C w → Q .normal a w) ∧
      ∀ i ∈ Region.ready md ops listed, kOp bar P md ops Q i C (fun C' a' => wpAnyK bar P md ops Q fuel (listed.setIfInBounds i true) C' a') a
theorem wpAny_of_K {bar : Nat → Bool} : ∀ (fuel : Nat) (listed : Array Bool) (C : World → Prop) (a : Act) (w : World), C w → wpAnyK bar P md ops Q fuel listed C a → wpAny P md ops Q fuel listed a w
  | 0, _, _, _, w, hw, h => ⟨h.1, h.2 w hw⟩
  | fuel + 1, _, _, _, w, hw, h => ⟨fun h0 => h.1 h0 w hw, fun i hi => wpOp_mono (fun a' w' ⟨C', h1, _, h3⟩ => wpAny_of_K fuel _ C' a' w' h1 h3) (h.2 i hi w hw)⟩
theorem wpAnyK_first {bar : Nat → Bool} {i : Nat} {oi : Oper} {v : Value} (hi : ops[i]? = some oi) (hsel : ∀ (j : Nat) (o : Oper) cs b, ops[j]? = some o → o.op ≠ .select cs b)
    (hQ : ∀ c a w, Q (.panic c) (a.put oi.dst v) w → Q (.panic c) a w) :
    ∀ (fuel : Nat) (listed : Array Bool) (C : World → Prop) (a : Act),
      (∀ j oj, ops[j]? = some oj → j ≠ i → listed.getD j true = false → (∀ e ∈ oj.after, Region.binds md e = true → e.on ≠ i) → oi.apart ops oj = true) →
      (∀ j, listed.getD j true = false → j ≠ i → bar j = true → i ∈ anc md ops 8 (onsOf md ops j)) → Closed md ops listed → i ∈ Region.ready md ops listed → YieldsIf P ops C oi v a →
      wpAnyK bar P md ops Q fuel (listed.setIfInBounds i true) C (a.put oi.dst v) → wpAnyK bar P md ops Q (fuel + 1) listed C a := by
  intro fuel
  induction fuel with
  | zero =>
    intro listed C a _ _ _ hr hy H
    refine ⟨fun h => (by rw [h] at hr; cases hr), fun j hj => ?_⟩
    by_cases hji : j = i
    · subst hji; exact kOp_of_yields hi hy H
    · have := ready_mono hj hji
      rw [H.1] at this
      cases this
  | succ fuel ih =>
    intro listed C a hfree hbar hcl hr hy H
    refine ⟨fun h => (by rw [h] at hr; cases hr), fun j hj => ?_⟩
    by_cases hji : j = i
    · subst hji; exact kOp_of_yields hi hy H
    · have h1 := H.2 j (ready_mono hj hji)
      obtain ⟨hjun, oj, hoj, hall⟩ := mem_ready.1 hj
      have hnot : ∀ e ∈ oj.after, Region.binds md e = true → e.on ≠ i := fun e he hb heq => by
        have h1 := hall e he hb
        have h0 := (mem_ready.1 hr).1
        rw [heq] at h1
        rcases Nat.lt_or_ge i listed.size with h' | h'
        · simp [h'] at h0 h1; rw [h0] at h1; cases h1
        · simp [Array.getElem?_eq_none h'] at h1
      have hb : bar j = false := bar_not hcl hj hr (hbar j hjun hji)
      have h2 := kOp_put (md := md) hoj (hfree j oj hoj hji hjun hnot) (fun cs b => hsel i oi cs b hi) (fun cs b => hsel j oj cs b hoj) hQ hb hy h1
      have hfree' : ∀ k ok, ops[k]? = some ok → k ≠ i → (listed.setIfInBounds j true).getD k true = false →
          (∀ e ∈ ok.after, Region.binds md e = true → e.on ≠ i) → oi.apart ops ok = true := fun k ok hk hki hun hno => by
        refine hfree k ok hk hki ?_ hno
        by_cases hjk : j = k
        · subst hjk; exact hjun
        · rw [getD_set_ne true hjk] at hun; exact hun
      have hbar' : ∀ k, (listed.setIfInBounds j true).getD k true = false → k ≠ i → bar k = true → i ∈ anc md ops 8 (onsOf md ops k) := fun k hun hki hbk => by
        refine hbar k ?_ hki hbk
        by_cases hjk : j = k
        · subst hjk; exact hjun
        · rw [getD_set_ne true hjk] at hun; exact hun
      refine kOp_mono (fun C' a' h3 => ih (listed.setIfInBounds j true) C' a' hfree' hbar' (hcl.set hj) (ready_mono hr (Ne.symm hji)) h3.1 ?_) h2
      rw [Array.setIfInBounds_comm _ _ hji]
      exact h3.2
/-- The walk in the order that is handed in: 0: the operation only reads; 1: it may turn the world; 2: it is the last of all, and may turn the world; 3: it may turn the world, and waits for all that came before it. -/
def wpCan (P : Program) (ops : Array Oper) (Q : Exit → Act → World → Prop) : List (Oper × Nat) → (World → Prop) → Act → Prop
  | [], C, a => ∀ w, C w → Q .normal a w
  | (o, 0) :: r, C, a =>
    if Region.wanted o (yielded ops a.tmps) then ∃ v, (∀ w, C w → (execOp a.eval o).run P w = .ok (.value v) w) ∧ wpCan P ops Q r C (a.put o.dst v)
    else wpCan P ops Q r C (a.put o.dst undef)
  | (o, 1) :: r, C, a =>
    if Region.wanted o (yielded ops a.tmps) then ∀ w, C w → o.wp P a w (Into false C (fun C' a' => wpCan P ops Q r C' a')) Q
    else wpCan P ops Q r C (a.put o.dst undef)
  | (o, 2) :: _, C, a =>
    if Region.wanted o (yielded ops a.tmps) then ∀ w, C w → o.wp P a w (Q .normal) Q else ∀ w, C w → Q .normal (a.put o.dst undef) w
  | (o, _ + 3) :: r, C, a =>
    if Region.wanted o (yielded ops a.tmps) then ∀ w, C w → o.wp P a w (fun a' w' => wpCan P ops Q r (fun x => x = w') a') Q
    else wpCan P ops Q r C (a.put o.dst undef)
/-- Is this an order in which what only reads comes up as soon as it may, and the others one by one? -/
def canB (bar : Nat → Bool) (md : Region.Mode) (ops : Array Oper) : List (Nat × Nat) → Array Bool → Bool
  | [], listed => (Region.ready md ops listed).isEmpty
  | (k, 0) :: r, listed => (Region.ready md ops listed).contains k && Region.free md ops listed k && ((List.range ops.size).all fun j => listed.getD j true || j == k || !bar j || (anc md ops 8 (onsOf md ops j)).contains k) &&
      canB bar md ops r (listed.setIfInBounds k true)
  | (k, 1) :: r, listed => Region.ready md ops listed == [k] && !bar k && canB bar md ops r (listed.setIfInBounds k true)
  | (k, 2) :: r, listed => Region.ready md ops listed == [k] && bar k && r.isEmpty && (Region.ready md ops (listed.setIfInBounds k true)).isEmpty
  | (k, _ + 3) :: r, listed => Region.ready md ops listed == [k] && bar k && canB bar md ops r (listed.setIfInBounds k true)
theorem bar_spec {bar : Nat → Bool} {listed : Array Bool} {k : Nat} (h : ((List.range ops.size).all fun j => listed.getD j true || j == k || !bar j || (anc md ops 8 (onsOf md ops j)).contains k) = true) (hsz : listed.size ≤ ops.size) :
    ∀ j, listed.getD j true = false → j ≠ k → bar j = true → k ∈ anc md ops 8 (onsOf md ops j) := by
  intro j h1 h2 h3
  have hj : j < ops.size := by
    rcases Nat.lt_or_ge j listed.size with h' | h'
    · omega
    · simp [Array.getElem?_eq_none h'] at h1
  have := List.all_eq_true.1 h j (List.mem_range.2 hj)
  rw [h1, h3] at this
  simpa [h2] using this
def pick (l : List Oper) : List (Nat × Nat) → List (Oper × Nat)
  | [] => []
  | (k, e) :: r => match l[k]? with | some o => (o, e) :: pick l r | none => []
theorem wpAnyK_can {bar : Nat → Bool} (hs : Region.noSelect ops = true) (hQ : ∀ c a d v w, Q (.panic c) (Act.put a d v) w → Q (.panic c) a w) : ∀ (r : List (Nat × Nat)) (listed : Array Bool) (C : World → Prop) (a : Act),
    listed.size = ops.size → Closed md ops listed → canB bar md ops r listed = true → r.all (fun p => decide (p.1 < ops.size)) = true → wpCan P ops Q (pick ops.toList r) C a → wpAnyK bar P md ops Q r.length listed C a
  | [], _, _, _, _, _, hB, _, h => ⟨by simpa [canB] using hB, h⟩
  | (k, 0) :: r, listed, C, a, hsz, hcl, hB, hl, h => by
    simp only [canB, Bool.and_eq_true] at hB
    obtain ⟨⟨⟨hr, hf⟩, hbar⟩, hB'⟩ := hB
    simp only [List.all_cons, Bool.and_eq_true, decide_eq_true_eq] at hl
    obtain ⟨hk, hl'⟩ := hl
    have h0 : ops[k]? = some ops[k] := Array.getElem?_eq_getElem hk
    have h0' : ops.toList[k]? = some ops[k] := by simp [hk]
    have hsz' : (listed.setIfInBounds k true).size = ops.size := by simpa using hsz
    have hcl' := hcl.set (i := k) (by simpa using hr)
    have hbs := bar_spec hbar (Nat.le_of_eq hsz)
    simp only [pick, h0', wpCan] at h
    by_cases hw : Region.wanted ops[k] (yielded ops a.tmps) = true
    · simp only [hw, if_true] at h
      obtain ⟨v, hv, hK⟩ := h
      exact wpAnyK_first h0 (Region.noSelect_spec hs) (fun c a w => hQ c a _ _ w) r.length listed C a (Region.free_spec h0 hf) hbs hcl (by simpa using hr) (.inl ⟨hw, hv⟩) (wpAnyK_can hs hQ r _ C _ hsz' hcl' hB' hl' hK)
    · simp only [hw] at h
      exact wpAnyK_first h0 (Region.noSelect_spec hs) (fun c a w => hQ c a _ _ w) r.length listed C a (Region.free_spec h0 hf) hbs hcl (by simpa using hr) (.inr ⟨by simpa using hw, rfl⟩) (wpAnyK_can hs hQ r _ C _ hsz' hcl' hB' hl' h)
  | (k, 1) :: r, listed, C, a, hsz, hcl, hB, hl, h => by
    simp only [canB, Bool.and_eq_true, beq_iff_eq, Bool.not_eq_true'] at hB
    obtain ⟨⟨hr, hbk⟩, hB'⟩ := hB
    simp only [List.all_cons, Bool.and_eq_true, decide_eq_true_eq] at hl
    obtain ⟨hk, hl'⟩ := hl
    have h0 : ops[k]? = some ops[k] := Array.getElem?_eq_getElem hk
    have h0' : ops.toList[k]? = some ops[k] := by simp [hk]
    have hsz' : (listed.setIfInBounds k true).size = ops.size := by simpa using hsz
    simp only [pick, h0', wpCan] at h
    have hcl' := hcl.set (i := k) (by rw [hr]; simp)
    refine ⟨fun h => (by rw [hr] at h; cases h), fun j hj => ?_⟩
    rw [hr] at hj
    obtain rfl : j = k := by simpa using hj
    intro w hw'
    unfold wpOp
    simp only [h0]
    by_cases hw : Region.wanted ops[j] (yielded ops a.tmps) = true
    · simp only [hw, if_true] at h ⊢
      exact .inl (Oper.wp_mono (fun a' w' ⟨C', g1, g2, g3⟩ => ⟨C', g1, .inr (g2.resolve_left (by simp)), wpAnyK_can hs hQ r _ C' a' hsz' hcl' hB' hl' g3⟩) (h w hw'))
    · simp only [hw] at h ⊢
      exact ⟨C, hw', .inr fun _ h => h, wpAnyK_can hs hQ r _ C _ hsz' hcl' hB' hl' h⟩
  | (k, 2) :: r, listed, C, a, _, hcl, hB, hl, h => by
    simp only [canB, Bool.and_eq_true, beq_iff_eq] at hB
    obtain ⟨⟨⟨hr, hbar⟩, hnil⟩, hend⟩ := hB
    simp only [List.all_cons, Bool.and_eq_true, decide_eq_true_eq] at hl
    obtain ⟨hk, hl'⟩ := hl
    have h0 : ops[k]? = some ops[k] := Array.getElem?_eq_getElem hk
    have h0' : ops.toList[k]? = some ops[k] := by simp [hk]
    simp only [pick, h0', wpCan] at h
    obtain rfl : r = [] := by simpa using hnil
    refine ⟨fun h => (by rw [hr] at h; cases h), fun j hj => ?_⟩
    rw [hr] at hj
    obtain rfl : j = k := by simpa using hj
    intro w hw'
    unfold wpOp
    simp only [h0]
    have hend' : Region.ready md ops (listed.setIfInBounds j true) = [] := by simpa using hend
    by_cases hw : Region.wanted ops[j] (yielded ops a.tmps) = true
    · simp only [hw, if_true] at h ⊢
      exact .inl (Oper.wp_mono (fun a' w' g => ⟨fun x => x = w', rfl, .inl hbar, hend', fun x hx => by subst hx; exact g⟩) (h w hw'))
    · simp only [hw] at h ⊢
      exact ⟨C, hw', .inl hbar, hend', fun x hx => h x hx⟩
  | (k, n + 3) :: r, listed, C, a, hsz, hcl, hB, hl, h => by
    simp only [canB, Bool.and_eq_true, beq_iff_eq] at hB
    obtain ⟨⟨hr, hbar⟩, hB'⟩ := hB
    simp only [List.all_cons, Bool.and_eq_true, decide_eq_true_eq] at hl
    obtain ⟨hk, hl'⟩ := hl
    have h0 : ops[k]? = some ops[k] := Array.getElem?_eq_getElem hk
    have h0' : ops.toList[k]? = some ops[k] := by simp [hk]
    have hsz' : (listed.setIfInBounds k true).size = ops.size := by simpa using hsz
    simp only [pick, h0', wpCan] at h
    have hcl' := hcl.set (i := k) (by rw [hr]; simp)
    refine ⟨fun h => (by rw [hr] at h; cases h), fun j hj => ?_⟩
    rw [hr] at hj
    obtain rfl : j = k := by simpa using hj
    intro w hw'
    unfold wpOp
    simp only [h0]
    by_cases hw : Region.wanted ops[j] (yielded ops a.tmps) = true
    · simp only [hw, if_true] at h ⊢
      exact .inl (Oper.wp_mono (fun a' w' g => ⟨fun x => x = w', rfl, .inl hbar, wpAnyK_can hs hQ r _ _ a' hsz' hcl' hB' hl' g⟩) (h w hw'))
    · simp only [hw] at h ⊢
      exact ⟨C, hw', .inr fun _ h => h, wpAnyK_can hs hQ r _ C _ hsz' hcl' hB' hl' h⟩
/-- Which operations have all that comes before them in the order that is handed in behind them for good. -/
def barOf (σ : List (Nat × Nat)) (j : Nat) : Bool := σ.any fun p => p.1 == j && decide (2 ≤ p.2)
/-- **ONE WALK, IN THE ORDER THAT IS HANDED IN, SERVES EVERY ORDER.** -/
theorem wp_region_can (C : World → Prop) (σ : List (Nat × Nat)) {id : Nat} {a : Act} {w : World} {l : List Oper} (hm : P.follows .mixedOrders = true)
    (hB : (Region.noSelect l.toArray && canB (barOf σ) .any l.toArray σ (Array.replicate l.length false) && σ.all (fun p => decide (p.1 < l.length)) && (σ.length == l.length)) = true)
    (hQ : ∀ c a d v w, Q (.panic c) (Act.put a d v) w → Q (.panic c) a w)
    (hC : C { w with drawn := w.drawn + 1 })
    (h : wpCan P l.toArray Q (pick l σ) C a) : (Code.region id l.toArray true).wp P Q a w := by
  simp only [Bool.and_eq_true, beq_iff_eq] at hB
  obtain ⟨⟨⟨h1, h2⟩, h3⟩, h4⟩ := hB
  refine wp_region_any hm (wpAny_of_K (bar := barOf σ) _ _ C _ _ hC ?_)
  have := wpAnyK_can (bar := barOf σ) (ops := l.toArray) (md := .any) (Q := Q) h1 hQ σ (Array.replicate l.length false) C a (by simp) (Closed.none _) h2 (by simpa using h3) (by simpa using h)
  simpa [h4] using this
theorem can_nil {C : World → Prop} {a : Act} (h : ∀ w, C w → Q .normal a w) : wpCan P ops Q [] C a := h
/-- An operation that only reads. -/
theorem can_reads {C : World → Prop} {a : Act} {o : Oper} {r : List (Oper × Nat)}
    (h : ∀ K : Act → Prop, (∀ a, wpCan P ops Q r C a → K a) → if Region.wanted o (yielded ops a.tmps) then ∃ v, (∀ w, C w → (execOp a.eval o).run P w = .ok (.value v) w) ∧ K (a.put o.dst v) else K (a.put o.dst undef)) :
    wpCan P ops Q ((o, 0) :: r) C a := h _ (fun _ h => h)
/-- An operation that may turn the world. -/
theorem can_turns {C : World → Prop} {a : Act} {o : Oper} {r : List (Oper × Nat)}
    (h : ∀ K : (World → Prop) → Act → Prop, (∀ C' a, wpCan P ops Q r C' a → K C' a) → if Region.wanted o (yielded ops a.tmps) then ∀ w, C w → o.wp P a w (Into false C K) Q else K C (a.put o.dst undef)) :
    wpCan P ops Q ((o, 1) :: r) C a := h _ (fun _ _ h => h)
/-- The last operation of all. -/
theorem can_last {C : World → Prop} {a : Act} {o : Oper} {r : List (Oper × Nat)}
    (h : ∀ K : Act → World → Prop, (∀ a w, Q .normal a w → K a w) → if Region.wanted o (yielded ops a.tmps) then ∀ w, C w → o.wp P a w K Q else ∀ w, C w → K (a.put o.dst undef) w) :
    wpCan P ops Q ((o, 2) :: r) C a := h _ (fun _ _ h => h)
/-- An operation that may turn the world, and that waits for all that came before it. -/
theorem can_frees {C : World → Prop} {a : Act} {o : Oper} {r : List (Oper × Nat)}
    (h : ∀ (K : Act → World → Prop) (K0 : Act → Prop), (∀ a w, wpCan P ops Q r (fun x => x = w) a → K a w) → (∀ a, wpCan P ops Q r C a → K0 a) →
      if Region.wanted o (yielded ops a.tmps) then ∀ w, C w → o.wp P a w K Q else K0 (a.put o.dst undef)) :
    wpCan P ops Q ((o, 3) :: r) C a := h _ _ (fun _ _ h => h) (fun _ h => h)
end
end Go.Proofs.Ytkngadbeflepoaa.Reg
namespace Go.Proofs.Ytkngadbeflepoaa
open Go.RowKit
set_option maxRecDepth 100000 in
set_option maxHeartbeats 16000000 in
theorem sums_reg12 (w0 : World) (b n cap p : Nat) (l : List UInt8) {Q : Exit → Act → World → Prop}
    (hQ : ∀ c a d v w, Q (.panic c) (Act.put a d v) w → Q (.panic c) a w) (HR : Hid (ByteRow w0 b l)) (hl : l.length = n) (hn : 16 ≤ n) (hb : Hid (n ≤ 9223372036854775807)) (hp : p < 128)
    (u0 u1 u2 u3 u4 u5 u6 u7 u8 u9 u10 u11 u14 u15 u16 u17 u18 u19 u20 u21 u22 u23 u24 u25 u26 u27 u28 u29 u30 u31 u32 u33 u34 u35 u36 u37 u38 u39 u40 u41 u42 u43 u44 u45 u46 u47 u48 u49 u50 u51 u52 u53 u54 u55 u56 u57 u58 u59 u60 u61 u62 u63 u64 u65 u66 u67 u68 u69 u70 u71 u72 u73 u74 u75 u76 u77 u78 u79 u80 u81 u82 u83 u84 u85 u86 u87 : Value)
    (Hk : Hid (∀ (s53 s54 s55 s56 s57 s58 s59 s60 s61 s62 s63 s64 s65 : Value) (w2 : World), ByteRow w2 b (Crc.flip l p) ∧ Below b w0 w2 → Q .normal ⟨List.toArray (u0 :: u1 :: u2 :: u3 :: u4 :: u5 :: u6 :: u7 :: u8 :: u9 :: u10 :: u11 :: Value.slice (some ⟨b, 0, none⟩) n cap :: Value.int .i64 (p : Int) :: u14 :: u15 :: u16 :: u17 :: u18 :: u19 :: u20 :: u21 :: u22 :: u23 :: u24 :: u25 :: u26 :: u27 :: u28 :: u29 :: u30 :: u31 :: u32 :: u33 :: u34 :: u35 :: u36 :: u37 :: u38 :: u39 :: u40 :: u41 :: u42 :: u43 :: u44 :: u45 :: u46 :: u47 :: u48 :: u49 :: u50 :: u51 :: u52 :: s53 :: s54 :: s55 :: s56 :: s57 :: s58 :: s59 :: s60 :: s61 :: s62 :: s63 :: s64 :: s65 :: u66 :: u67 :: u68 :: u69 :: u70 :: u71 :: u72 :: u73 :: u74 :: u75 :: u76 :: u77 :: u78 :: u79 :: u80 :: u81 :: u82 :: u83 :: u84 :: u85 :: u86 :: u87 :: []), []⟩ w2)) :
    Code.wp Try.prog (findR 12 (Try.f11.body.getD .skip)) Q ⟨List.toArray (u0 :: u1 :: u2 :: u3 :: u4 :: u5 :: u6 :: u7 :: u8 :: u9 :: u10 :: u11 :: Value.slice (some ⟨b, 0, none⟩) n cap :: Value.int .i64 (p : Int) :: u14 :: u15 :: u16 :: u17 :: u18 :: u19 :: u20 :: u21 :: u22 :: u23 :: u24 :: u25 :: u26 :: u27 :: u28 :: u29 :: u30 :: u31 :: u32 :: u33 :: u34 :: u35 :: u36 :: u37 :: u38 :: u39 :: u40 :: u41 :: u42 :: u43 :: u44 :: u45 :: u46 :: u47 :: u48 :: u49 :: u50 :: u51 :: u52 :: u53 :: u54 :: u55 :: u56 :: u57 :: u58 :: u59 :: u60 :: u61 :: u62 :: u63 :: u64 :: u65 :: u66 :: u67 :: u68 :: u69 :: u70 :: u71 :: u72 :: u73 :: u74 :: u75 :: u76 :: u77 :: u78 :: u79 :: u80 :: u81 :: u82 :: u83 :: u84 :: u85 :: u86 :: u87 :: []), []⟩ w0 := by
  conv => arg 2; whnf
  obtain ⟨q, hq⟩ : ∃ q, p / 8 = q := ⟨_, rfl⟩
  obtain ⟨r, hr⟩ : ∃ r, p % 8 = r := ⟨_, rfl⟩
  have hq' : q < n := by omega
  have hr' : r < 8 := by omega
  have e2 : IntKind.i64.wrap ((p : Int) / 8) = (q : Int) := by
    rw [IntWalk.i64_in _ (by omega)]; omega
  have e3 : (p : Int).tmod 8 = (r : Int) := by
    rw [Int.tmod_eq_emod_of_nonneg (by omega)]; omega
  obtain ⟨hcell, hfz⟩ := HR.out q (by omega)
  generalize hv : l[q]'(by omega) = v at hcell
  have Hv := Lib.hid hv; clear hv
  have Hq := Lib.hid hq; clear hq
  have Hr := Lib.hid hr; clear hr
  refine Reg.wp_region_can (fun x => x = w0.drew) [(0, 0), (1, 0), (2, 0), (3, 0), (4, 0), (5, 0), (6, 0), (7, 0), (8, 0), (9, 0), (10, 0), (11, 0), (12, 0), (13, 2)] (by kernel_rfl) (by kernel_rfl) hQ rfl ?_
  dsimp only [Reg.pick, List.getElem?_cons_zero, List.getElem?_cons_succ]
  iterate 13 (refine Reg.can_reads (fun K hK => ?_); go_simp; refine hK _ ?_; clear hK K)
  refine Reg.can_last (fun K hK => ?_)
  go_simp
  refine hK _ _ ?_
  clear hK K
  go_wp2_with fail
  refine Hk.out _ _ _ _ _ _ _ _ _ _ _ _ _ _ ⟨?_, ?_⟩
  · have hx := HR.out.set (q := q) (v ^^^ UInt8.ofNat (2 ^ r)) (Crc.xor_u8 v r hr')
    unfold Crc.flip
    rw [Hq.out, Hr.out, List.getD_eq_getElem?_getD, List.getElem?_eq_getElem (by omega), Option.getD_some, Hv.out]
    exact hx.drew
  · exact (((Below.refl b w0)).setCell (p := ⟨b, q, none⟩) (Nat.le_refl _) _).drew
end Go.Proofs.Ytkngadbeflepoaa
namespace Go.Proofs.Ytkngadbeflepoaa
open Go.RowKit
set_option maxRecDepth 100000 in
set_option maxHeartbeats 16000000 in
theorem sums_reg17 (w0 : World) (g code : Nat) {Q : Exit → Act → World → Prop}
    (HM : Hid (MacAt w0 g macNone none))
    (u0 u1 u2 u3 u4 u5 u6 u7 u8 u9 u10 u11 u12 u13 u17 u18 u19 u20 u21 u22 u23 u24 u25 u26 u27 u28 u29 u30 u31 u32 u33 u34 u35 u36 u37 u38 u39 u40 u41 u42 u43 u44 u45 u46 u47 u48 u49 u50 u51 u52 u53 u54 u55 u56 u57 u58 u59 u60 u61 u62 u63 u64 u65 u66 u67 u68 u69 u70 u71 u72 u73 u74 u75 u76 u77 u78 u79 u80 u81 u82 u83 u84 u85 u86 u87 : Value)
    (Hk : Hid (∀ (s75 s76 s77 s78 s79 s80 s81 s82 s83 s84 s85 s86 : Value) (w2 : World), Below w0.heap.size w0 w2 → Q .normal ⟨List.toArray (u0 :: u1 :: u2 :: u3 :: u4 :: u5 :: Value.bool true :: u7 :: u8 :: u9 :: u10 :: u11 :: u12 :: u13 :: Value.pointer (some ⟨g, 0, none⟩) :: Value.int .i64 (code : Int) :: Value.int .i64 (code : Int) :: u17 :: u18 :: u19 :: u20 :: u21 :: u22 :: u23 :: u24 :: u25 :: u26 :: u27 :: u28 :: u29 :: u30 :: u31 :: u32 :: u33 :: u34 :: u35 :: u36 :: u37 :: u38 :: u39 :: u40 :: u41 :: u42 :: u43 :: u44 :: u45 :: u46 :: u47 :: u48 :: u49 :: u50 :: u51 :: u52 :: u53 :: u54 :: u55 :: u56 :: u57 :: u58 :: u59 :: u60 :: u61 :: u62 :: u63 :: u64 :: u65 :: u66 :: u67 :: u68 :: u69 :: u70 :: u71 :: u72 :: u73 :: u74 :: s75 :: s76 :: s77 :: s78 :: s79 :: s80 :: s81 :: s82 :: s83 :: s84 :: s85 :: s86 :: Value.bool true :: []), []⟩ w2)) :
    Code.wp Try.prog (findR 17 (Try.f11.body.getD .skip)) Q ⟨List.toArray (u0 :: u1 :: u2 :: u3 :: u4 :: u5 :: u6 :: u7 :: u8 :: u9 :: u10 :: u11 :: u12 :: u13 :: Value.pointer (some ⟨g, 0, none⟩) :: Value.int .i64 (code : Int) :: Value.int .i64 (code : Int) :: u17 :: u18 :: u19 :: u20 :: u21 :: u22 :: u23 :: u24 :: u25 :: u26 :: u27 :: u28 :: u29 :: u30 :: u31 :: u32 :: u33 :: u34 :: u35 :: u36 :: u37 :: u38 :: u39 :: u40 :: u41 :: u42 :: u43 :: u44 :: u45 :: u46 :: u47 :: u48 :: u49 :: u50 :: u51 :: u52 :: u53 :: u54 :: u55 :: u56 :: u57 :: u58 :: u59 :: u60 :: u61 :: u62 :: u63 :: u64 :: u65 :: u66 :: u67 :: u68 :: u69 :: u70 :: u71 :: u72 :: u73 :: u74 :: u75 :: u76 :: u77 :: u78 :: u79 :: u80 :: u81 :: u82 :: u83 :: u84 :: u85 :: u86 :: u87 :: []), []⟩ w0 := by
  conv => arg 2; whnf
  have hby := fun y : World => mbytes_any macNone .nil (macFit_by macFit_none) y trivial rfl
  obtain ⟨SB, hSB⟩ : ∃ S : ByteArray, (⟨(macB macNone).toArray⟩ : ByteArray) = S := ⟨_, rfl⟩
  rw [hSB] at hby
  clear hSB
  rw [show (Tr.nil).ptr = none from rfl] at hby
  have hby2 := hby
  unfold macV at hby
  rw [mac_eta macNone none] at hby
  have Hby := Lib.hid hby; clear hby
  have Hby2 := Lib.hid hby2; clear hby2
  obtain ⟨⟨m0, m1, m14⟩, ⟨m2, m3, m4⟩, ⟨m5, m6, m7⟩, ⟨m8, m9, m10⟩, ⟨m11, m12, m13⟩⟩ := HM.out.cells
  go_wp2_with (first
    | ((with_reducible refine (Hby.out _).mono ?_); rintro e w2 ⟨rfl, hb2⟩; have Hb2 := Lib.hid hb2; clear hb2)
    | ((with_reducible refine (dwakes_any _).mono ?_); rintro e w4 ⟨rfl, hb4⟩; have Hb4 := Lib.hid hb4; clear hb4)
    | (refine (Hby2.out _).mono ?_; rintro e w3 ⟨rfl, hb3⟩; have Hb3 := Lib.hid hb3; clear hb3))
  have hb := Hb2.out.trans (Hb3.out.mono Hb2.out.size)
  exact Hk.out _ _ _ _ _ _ _ _ _ _ _ _ _ (hb.trans (Hb4.out.mono hb.size))
end Go.Proofs.Ytkngadbeflepoaa
