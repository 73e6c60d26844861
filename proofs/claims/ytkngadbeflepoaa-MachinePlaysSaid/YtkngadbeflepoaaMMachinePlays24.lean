/- A law on regions that draw their order where two operations that turn the world may be up at once: the plan forks. Over RegK. No condition. -/
import Derived.Test.YtkngadbeflepoaaMMachinePlays7
import Derived.Test.YtkngadbeflepoaaMMachinePlays23
namespace Go.Proofs.Ytkngadbeflepoaa.RegJ
open Go RegK

/-- A plan: operations by their numbers. -/
inductive Plan where
  | nil : Plan
  | step (k e : Nat) (r : Plan) : Plan
  | fork (k : Nat) (r : Plan) (j : Nat) (s : Plan) : Plan
/-- A plan with its operations. -/
inductive PlanO where
  | nil : PlanO
  | bad : PlanO
  | step (o : Oper) (e : Nat) (r : PlanO) : PlanO
  | fork (o : Oper) (r : PlanO) (u : Oper) (s : PlanO) : PlanO
def Plan.len : Plan → Nat
  | .nil => 0
  | .step _ _ r => r.len + 1
  | .fork _ r _ _ => r.len + 1
def pickJ (l : List Oper) : Plan → PlanO
  | .nil => .nil
  | .step k e r => match l[k]? with | some o => .step o e (pickJ l r) | none => .bad
  | .fork k r j s => match l[k]?, l[j]? with | some o, some u => .fork o (pickJ l r) u (pickJ l s) | _, _ => .bad
section
variable {F : Fence} {n : Nat} {P : Program} {ops : Array Oper} {Q : Exit → Act → World → Prop} {md : Region.Mode}
/-- The walk: 0 reads only, 1 turns the world within R; at a fork both ways. -/
def canJ (F : Fence) (n : Nat) (P : Program) (ops : Array Oper) (Q : Exit → Act → World → Prop) : PlanO → (World → Prop) → Act → World → Prop
  | .nil, _, a, w => Q .normal a w
  | .bad, _, _, _ => False
  | .step o 0 r, R, a, w =>
    if Region.wanted o (yielded ops a.tmps) then ∃ v, (∀ x, R x → (execOp a.eval o).run P x = .ok (.value v) x) ∧ canJ F n P ops Q r R (a.put o.dst v) w
    else canJ F n P ops Q r R (a.put o.dst undef) w
  | .step o (_ + 1) r, R, a, w =>
    if Region.wanted o (yielded ops a.tmps) then o.wpIn F n P a w (fun a' w' => ∃ R' : World → Prop, (∀ x, R' x → R x) ∧ R' w' ∧ canJ F n P ops Q r R' a' w') Q
    else (∀ f, o.about P w a.eval = some f → F.fn f) ∧ canJ F n P ops Q r R (a.put o.dst undef) w
  | .fork o r u s, R, a, w =>
    (if Region.wanted o (yielded ops a.tmps) then o.wpIn F n P a w (fun a' w' => ∃ R' : World → Prop, (∀ x, R' x → R x) ∧ R' w' ∧ canJ F n P ops Q r R' a' w') Q
      else (∀ f, o.about P w a.eval = some f → F.fn f) ∧ canJ F n P ops Q r R (a.put o.dst undef) w) ∧
    (if Region.wanted u (yielded ops a.tmps) then u.wpIn F n P a w (fun a' w' => ∃ R' : World → Prop, (∀ x, R' x → R x) ∧ R' w' ∧ canJ F n P ops Q s R' a' w') Q
      else (∀ f, u.about P w a.eval = some f → F.fn f) ∧ canJ F n P ops Q s R (a.put u.dst undef) w)
def canJB (md : Region.Mode) (ops : Array Oper) : Plan → Array Bool → Bool
  | .nil, listed => (Region.ready md ops listed).isEmpty
  | .step k 0 r, listed => decide (k < ops.size) && (Region.ready md ops listed).contains k && Region.free md ops listed k && (match ops[k]? with | some o => noCall o | none => false) && canJB md ops r (listed.setIfInBounds k true)
  | .step k (_ + 1) r, listed => decide (k < ops.size) && Region.ready md ops listed == [k] && canJB md ops r (listed.setIfInBounds k true)
  | .fork k r j s, listed => decide (k < ops.size) && decide (j < ops.size) && Region.ready md ops listed == [k, j] && r.len == s.len && canJB md ops r (listed.setIfInBounds k true) && canJB md ops s (listed.setIfInBounds j true)

theorem any_canJ (hro : ∀ o ∈ ops, noDefer o = true) (hs : Region.noSelect ops = true) (hQ : ∀ c a d v w, Q (.panic c) (Act.put a d v) w → Q (.panic c) a w) : ∀ (r : Plan) (listed : Array Bool) (R : World → Prop) (a : Act) (w : World),
    listed.size = ops.size → Closed md ops listed → canJB md ops r listed = true → R w → canJ F n P ops Q (pickJ ops.toList r) R a w → anyR (fun _ => false) F n P md ops Q r.len listed R a w
  | .nil, _, _, _, _, _, _, hB, _, h => ⟨by simpa [canJB] using hB, h⟩
  | .step k 0 r, listed, R, a, w, hsz, hcl, hB, hR, h => by
    simp only [canJB, Bool.and_eq_true, decide_eq_true_eq] at hB
    obtain ⟨⟨⟨⟨hk, hr⟩, hf⟩, hc⟩, hB'⟩ := hB
    have h0 : ops[k]? = some ops[k] := Array.getElem?_eq_getElem hk
    have h0' : ops.toList[k]? = some ops[k] := by simp [hk]
    simp only [h0] at hc
    have hsz' : (listed.setIfInBounds k true).size = ops.size := by simpa using hsz
    have hcl' := hcl.set (i := k) (by simpa using hr)
    simp only [pickJ, h0', canJ] at h
    have hbs : ∀ j, listed.getD j true = false → j ≠ k → (fun _ => false) j = true → k ∈ back md ops ops.size (onsOf md ops j) := fun j _ _ h3 => by cases h3
    by_cases hw : Region.wanted ops[k] (yielded ops a.tmps) = true
    · simp only [hw, if_true] at h
      obtain ⟨v, hv, hK⟩ := h
      exact first hro h0 hc (Region.noSelect_spec hs) (fun c a w => hQ c a _ _ w) r.len listed R a w (Region.free_spec h0 hf) hbs hcl (by simpa using hr) hR (.inl ⟨hw, hv⟩) (any_canJ hro hs hQ r _ R _ w hsz' hcl' hB' hR hK)
    · simp only [hw] at h
      exact first hro h0 hc (Region.noSelect_spec hs) (fun c a w => hQ c a _ _ w) r.len listed R a w (Region.free_spec h0 hf) hbs hcl (by simpa using hr) hR (.inr ⟨by simpa using hw, rfl⟩) (any_canJ hro hs hQ r _ R _ w hsz' hcl' hB' hR h)
  | .step k (m + 1) r, listed, R, a, w, hsz, hcl, hB, hR, h => by
    simp only [canJB, Bool.and_eq_true, beq_iff_eq, decide_eq_true_eq] at hB
    obtain ⟨⟨hk, hr⟩, hB'⟩ := hB
    have h0 : ops[k]? = some ops[k] := Array.getElem?_eq_getElem hk
    have h0' : ops.toList[k]? = some ops[k] := by simp [hk]
    have hsz' : (listed.setIfInBounds k true).size = ops.size := by simpa using hsz
    have hcl' := hcl.set (i := k) (by rw [hr]; simp)
    simp only [pickJ, h0', canJ] at h
    refine ⟨fun h => (by rw [hr] at h; cases h), fun j hj => ?_⟩
    rw [hr] at hj
    obtain rfl : j = k := by simpa using hj
    unfold wpOpIn
    simp only [h0]
    by_cases hw : Region.wanted ops[j] (yielded ops a.tmps) = true
    · simp only [hw, if_true] at h ⊢
      exact Oper.wpIn_mono (fun a' w' ⟨R', g0, g1, g2⟩ => ⟨R', g1, .inr g0, any_canJ hro hs hQ r _ R' a' w' hsz' hcl' hB' g1 g2⟩) h
    · simp only [hw] at h ⊢
      exact ⟨h.1, R, hR, .inr fun _ h => h, any_canJ hro hs hQ r _ R _ w hsz' hcl' hB' hR h.2⟩
  | .fork k r j s, listed, R, a, w, hsz, hcl, hB, hR, h => by
    simp only [canJB, Bool.and_eq_true, beq_iff_eq, decide_eq_true_eq] at hB
    obtain ⟨⟨⟨⟨⟨hk, hj⟩, hr⟩, hlen⟩, hB1⟩, hB2⟩ := hB
    have h0 : ops[k]? = some ops[k] := Array.getElem?_eq_getElem hk
    have h0' : ops.toList[k]? = some ops[k] := by simp [hk]
    have g0 : ops[j]? = some ops[j] := Array.getElem?_eq_getElem hj
    have g0' : ops.toList[j]? = some ops[j] := by simp [hj]
    have hcl1 := hcl.set (i := k) (by rw [hr]; simp)
    have hcl2 := hcl.set (i := j) (by rw [hr]; simp)
    simp only [pickJ, h0', g0', canJ] at h
    obtain ⟨h1, h2⟩ := h
    refine ⟨fun h => (by rw [hr] at h; cases h), fun i hi => ?_⟩
    rw [hr] at hi
    have hi' : i = k ∨ i = j := by simpa using hi
    rcases hi' with rfl | rfl
    · unfold wpOpIn
      simp only [h0]
      by_cases hw : Region.wanted ops[i] (yielded ops a.tmps) = true
      · simp only [hw, if_true] at h1 ⊢
        exact Oper.wpIn_mono (fun a' w' ⟨R', g0, g1, g2⟩ => ⟨R', g1, .inr g0, any_canJ hro hs hQ r _ R' a' w' (by simpa using hsz) hcl1 hB1 g1 g2⟩) h1
      · simp only [hw] at h1 ⊢
        exact ⟨h1.1, R, hR, .inr fun _ h => h, any_canJ hro hs hQ r _ R _ w (by simpa using hsz) hcl1 hB1 hR h1.2⟩
    · unfold wpOpIn
      simp only [g0]
      by_cases hw : Region.wanted ops[i] (yielded ops a.tmps) = true
      · simp only [hw, if_true] at h2 ⊢
        exact Oper.wpIn_mono (fun a' w' ⟨R', g0, g1, g2⟩ => ⟨R', g1, .inr g0, by
          have := any_canJ hro hs hQ s _ R' a' w' (by simpa using hsz) hcl2 hB2 g1 g2
          show anyR (fun _ => false) F n P md ops Q r.len _ _ _ _
          rw [hlen]
          exact this⟩) h2
      · simp only [hw] at h2 ⊢
        exact ⟨h2.1, R, hR, .inr fun _ h => h, by
          have := any_canJ hro hs hQ s _ R _ w (by simpa using hsz) hcl2 hB2 hR h2.2
          show anyR (fun _ => false) F n P md ops Q r.len _ _ _ _
          rw [hlen]
          exact this⟩
/-- The walk, behind a name that nothing opens. -/
structure Can (F : Fence) (n : Nat) (P : Program) (ops : Array Oper) (Q : Exit → Act → World → Prop) (l : PlanO) (R : World → Prop) (a : Act) (w : World) : Prop where
  out : canJ F n P ops Q l R a w
theorem wpIn_region_plan (R : World → Prop) (π : Plan) {id : Nat} {a : Act} {w : World} {l : List Oper} (hro : l.all noDefer = true) (hm : P.follows .mixedOrders = true)
    (hB : (Region.noSelect l.toArray && canJB .any l.toArray π (Array.replicate l.length false) && (π.len == l.length)) = true)
    (hQ : ∀ c a d v w, Q (.panic c) (Act.put a d v) w → Q (.panic c) a w) (hR : R { w with drawn := w.drawn + 1 })
    (h : Can F n P l.toArray Q (pickJ l π) R a { w with drawn := w.drawn + 1 }) : (Code.region id l.toArray true).wpIn F n P Q a w := by
  simp only [Bool.and_eq_true, beq_iff_eq] at hB
  obtain ⟨⟨h1, h2⟩, h4⟩ := hB
  refine wpIn_region_any hm (any_of (bar := fun _ => false) _ _ R _ _ ?_)
  have := any_canJ (F := F) (n := n) (P := P) (ops := l.toArray) (md := .any) (Q := Q) (fun o ho => List.all_eq_true.1 hro o (by simpa using ho)) h1 hQ π (Array.replicate l.length false) R a _ (by simp) (Closed.none _) h2 hR (by simpa using h.out)
  simpa [h4] using this
theorem reads {R : World → Prop} {a : Act} {w : World} {o : Oper} {r : PlanO}
    (h : ∀ K : Act → Prop, (∀ a, Can F n P ops Q r R a w → K a) → if Region.wanted o (yielded ops a.tmps) then ∃ v, (∀ x, R x → (execOp a.eval o).run P x = .ok (.value v) x) ∧ K (a.put o.dst v) else K (a.put o.dst undef)) :
    Can F n P ops Q (.step o 0 r) R a w := ⟨h _ (fun _ h => h.out)⟩
theorem turns (hfn : ∀ f, F.fn f) {R : World → Prop} {a : Act} {w : World} {o : Oper} {r : PlanO}
    (h : ∀ (K : Act → World → Prop) (K0 : Act → Prop), (∀ (R' : World → Prop) a w, (∀ x, R' x → R x) → R' w → Can F n P ops Q r R' a w → K a w) → (∀ a, Can F n P ops Q r R a w → K0 a) →
      if Region.wanted o (yielded ops a.tmps) then o.wpIn F n P a w K Q else K0 (a.put o.dst undef)) :
    Can F n P ops Q (.step o 1 r) R a w := by
  have h' := h (fun a' w' => ∃ R' : World → Prop, (∀ x, R' x → R x) ∧ R' w' ∧ canJ F n P ops Q r R' a' w') (fun a => canJ F n P ops Q r R a w) (fun R' _ _ h0 h1 h2 => ⟨R', h0, h1, h2.out⟩) (fun _ h => h.out)
  refine ⟨?_⟩
  simp only [canJ]
  split
  · rename_i hw; rw [if_pos hw] at h'; exact h'
  · rename_i hw; rw [if_neg hw] at h'; exact ⟨fun f _ => hfn f, h'⟩
theorem forks {R : World → Prop} {a : Act} {w : World} {o u : Oper} {r s : PlanO} (h1 : Can F n P ops Q (.step o 1 r) R a w) (h2 : Can F n P ops Q (.step u 1 s) R a w) : Can F n P ops Q (.fork o r u s) R a w := ⟨⟨h1.out, h2.out⟩⟩
theorem nil {R : World → Prop} {a : Act} {w : World} (h : Q .normal a w) : Can F n P ops Q .nil R a w := ⟨h⟩
end
end Go.Proofs.Ytkngadbeflepoaa.RegJ
/- The document's table of sessions: ref12.Keep. Condition: the command is fresh; few are kept. -/
namespace Go.Proofs.Ytkngadbeflepoaa
open Go.RowKit

theorem infoKept : (Try.prog.info? 131).map (fun i => (i.zero, i.size, i.bytes)) = some (some (.agg #[.int .u8 0, .int .u32 0, .int .u8 0, .string ByteArray.empty]), 4, 32) := by kernel_rfl
theorem kept_len (k : KeptV) : (keptCells k).length = 4 := rfl
theorem kept_one (k : KeptV) : ∀ u ∈ keptCells k, u.oneCell' = true := by simp [keptCells, Value.oneCell']
theorem kept_new (w : World) (k : KeptV) : KeptsAt (w.alloc (.cells (keptCells k).toArray 131)) (some ⟨w.heap.size, 0, none⟩) 1 [k] := by
  refine ⟨rfl, by unfold maxLen; omega, fun i x hx => ?_⟩
  match i, hx with
  | 0, hx =>
    simp at hx
    subst hx
    refine ⟨w.heap.size, 0, rfl, by simp, fun j v hj => ?_⟩
    have h := heap_alloc_new w (.cells (keptCells k).toArray 131)
    simp only [World.cell?, h, Nat.zero_mul, Nat.zero_add]
    simpa using hj
/-- The block of a slice bears a type. -/
def STy (w : World) (t : TypeId) (A : Option Addr) : Prop := ∀ b o, A = some ⟨b, o, none⟩ → ∃ cs, w.heap[b]? = some (.cells cs t (0, 0))
theorem STy.stay {w w' : World} {t : TypeId} {A : Option Addr} (h : STy w t A) (hb : ∀ b o, A = some ⟨b, o, none⟩ → w'.heap[b]? = w.heap[b]?) : STy w' t A := fun b o e => by
  obtain ⟨cs, hc⟩ := h b o e
  exact ⟨cs, (hb b o e).trans hc⟩
theorem STy.below {w w' : World} {t : TypeId} {A : Option Addr} (h : STy w t A) (hb : Below w.heap.size w w') : STy w' t A := fun b o e => by
  obtain ⟨cs, h1⟩ := h b o e
  exact ⟨cs, (hb.block b (Array.getElem?_eq_some_iff.1 h1).1).trans h1⟩
theorem sty_none (w : World) (t : TypeId) : STy w t none := fun b o e => by cases e
theorem own_sty {w : World} {base : Nat} {t : TypeId} {size : Nat} {A : Option Addr} {n c : Nat} {xs : List Value} (h : w.ownsRow base t size (.slice A n c) n xs) : STy w t A := by
  rcases h.2 with ⟨e1, e2⟩ | ⟨g, cap, cur, e1, h2, h3, h4, h5, _, _⟩
  · simp only [Value.slice.injEq] at e1
    rw [e1.1]
    exact sty_none w t
  · simp only [Value.slice.injEq] at e1
    rw [e1.1]
    intro b o e
    cases e
    exact ⟨_, h3⟩
set_option maxRecDepth 100000 in
set_option maxHeartbeats 4000000 in
theorem rkeep_any (A : Option Addr) (n cap : Nat) (z : List KeptV) (t : TabV) (hT : KeptTab t z) (hnil : A = none → n = 0 ∧ cap = 0) (hn : n ≤ 1000000) (k : KeptV) (hcl : k.client.toNat < 4) (hsq : k.seq.toNat ≠ 0) (hf : (lookT t k.client.toNat k.seq).1 = 1) (w : World) (h : KeptsAt w A n z) :
    Calls Try.prog 68 #[.slice A n cap, .agg (keptCells k).toArray] w fun e w' => ∃ A' c', e = .returned (.slice A' (n + 1) c') ∧ KeptsAt w' A' (n + 1) (z ++ [k]) ∧ (A' ≠ none ∧ STy w' 131 A') ∧ Below w.heap.size w w' := by
  obtain ⟨i0, hi0, hz0, hs0, hb0⟩ := info_parts infoKept
  have hk0 : KeptRow (w.alloc (.cells (keptCells k).toArray 131)) w.heap.size k := heap_alloc_new _ _
  have hb1 := (Below.refl w.heap.size w).alloc (Nat.le_refl _) (.cells (keptCells k).toArray 131)
  have hl := fun (y : World) (hy : Below w.heap.size w y) => rlook_any A n cap z t hT k.client hcl k.seq hsq y (h.below hy)
  rw [hf] at hl
  obtain ⟨q2, hq2⟩ : ∃ q, (lookT t k.client.toNat k.seq).2.1 = q := ⟨_, rfl⟩
  obtain ⟨q3, hq3⟩ : ∃ q, (lookT t k.client.toNat k.seq).2.2 = q := ⟨_, rfl⟩
  rw [hq2, hq3] at hl
  unfold repV repCells at hl
  have Hl := Lib.hid hl; clear hl hq2 hq3
  have Hnil := Lib.hid hnil; clear hnil
  have H := Lib.hid h; clear h
  clear hf hT hsq
  rw [kept_eta]
  go_enter Try.func68, Try.ntmps68
  go_upto_region 1 with fail
  change Code.wp _ _ _ _ (w.alloc (.cells (keptCells k).toArray 131))
  generalize w.alloc (.cells (keptCells k).toArray 131) = w1 at *
  have Hk0 := Lib.hid hk0
  have Hb1 := Lib.hid hb1; clear hb1
  obtain ⟨k0, k1, k2, k3⟩ := hk0.cells
  clear hk0
  go_upto_region 4 with ((with_reducible refine (Hl.out _ Hb1.out).mono ?_); rintro e w2 ⟨rfl, hb2⟩; have Hb2 := Lib.hid hb2; clear hb2)
  clear k0 k1 k2 k3 Hl
  have hb3 := Hb2.out.alloc Hb2.out.size (.cells (repCells q2 q3).toArray 51)
  change Code.wp _ _ _ _ (w2.alloc (.cells (repCells q2 q3).toArray 51))
  generalize w2.alloc (.cells (repCells q2 q3).toArray 51) = w3 at *
  have Hk3 := Lib.hid (Hk0.out.below hb3)
  have Hbw := Lib.hid (Hb1.out.trans (hb3.mono Hb1.out.size))
  clear hb3 Hb2 Hb1 Hk0
  have Hlw := Lib.hid (show w.heap.size < w3.heap.size from Hk3.out.lt)
  refine (wpIn_wide (n := 1)).1 ?_
  refine RegJ.wpIn_region_plan (F := Fence.wide) (KeptW w3) (.step 0 0 (.step 2 0 (.fork 1 (.step 3 1 (.step 4 1 (.step 5 0 .nil))) 3 (.step 1 1 (.step 4 1 (.step 5 0 .nil)))))) (by kernel_rfl) (by kernel_rfl) (by kernel_rfl) (fun _ _ d _ _ h => by cases d <;> exact h) ⟨rfl, rfl, rfl, Nat.le_refl _, fun _ _ => rfl⟩ ?_
  dsimp only [RegJ.pickJ, List.getElem?_cons_zero, List.getElem?_cons_succ]
  change RegJ.Can _ _ _ _ _ _ _ _ w3.drew
  have hkd : KeptW w3 w3.drew := ⟨rfl, rfl, rfl, Nat.le_refl _, fun _ _ => rfl⟩
  generalize w3.drew = w4 at *
  refine RegJ.reads ?_
  intro K hK
  go_simp
  refine ⟨_, fun _ _ => rfl, hK _ ?_⟩
  clear hK K
  refine RegJ.reads ?_
  intro K hK
  go_simp
  refine ⟨.agg #[.int .u8 (k.client.toNat : Int), .int .u32 (k.seq.toNat : Int), .int .u8 (k.code : Int), .string k.text], fun y hy => ?_, hK _ ?_⟩
  · obtain ⟨f0, f1, f2, f3⟩ := (Hk3.out.below (KeptW.bel hy)).cells
    go_simp
  clear hK K
  refine RegJ.forks ?_ ?_
  · skip
    refine RegJ.turns (fun _ => trivial) ?_
    intro K K0 hK hK0
    rw [if_pos (by simp [Region.wanted])]
    refine RegK.op_wide rfl ?_
    refine wp_append_slice (enc := keptCells) _ _ 77 rfl w3.heap.size 131 i0 _ 32 Try.underlying77 hi0 hz0 hs0 hb0 rfl (by omega) kept_len kept_one (.slice none 0 0) 0 [] rfl (World.ownsRow_nil _ _ _ _) A n cap z rfl (H.out.below (Hbw.out.trans ((KeptW.bel hkd).mono Hbw.out.size))) Hnil.out (by unfold maxLen; omega) (by omega) (KeptW.bel hkd).size ?_
    intro v5 w5 ho5 hg5
    have hb5 : Below w4.heap.size w4 w5 := ⟨hg5.os, hg5.tape, hg5.output, hg5.size, fun q hq => hg5.block q hq (fun e => by cases e)⟩
    have hk5 : KeptW w3 w5 := KeptW.mono hkd hb5
    refine hK _ _ _ (fun _ h => h) hk5 ?_
    clear hK K hK0 K0 hg5
    rw [Nat.zero_add, List.nil_append] at ho5
    refine RegJ.turns (fun _ => trivial) ?_
    intro K K0 hK hK0
    go_simp
    have hb6 := (Below.refl w5.heap.size w5).alloc (Nat.le_refl _) (.cells (keptCells k).toArray 131)
    have qk : KeptW w3 (w5.alloc (.cells (keptCells k).toArray 131)) := KeptW.mono hk5 hb6
    have qn := kept_new w5 k
    have ho6 : (w5.alloc (.cells (keptCells k).toArray 131)).ownsRow w3.heap.size 131 4 v5 n (flat keptCells z) := ho5.alloc _
    refine hK _ _ (w5.alloc (.cells (keptCells k).toArray 131)) (fun _ h => h) qk ?_
    have hk6 := qk
    have hn6 := qn
    clear hK K hK0 K0 hb6 ho5 hk5 qk qn
    generalize w5.alloc (.cells (keptCells k).toArray 131) = w6 at *
    generalize w5.heap.size = g5 at *
    refine RegJ.turns (fun _ => trivial) ?_
    intro K K0 hK hK0
    rw [if_pos (by simp [Region.wanted])]
    refine RegK.op_wide rfl ?_
    refine wp_append_slice (enc := keptCells) _ _ 77 rfl w3.heap.size 131 i0 _ 32 Try.underlying77 hi0 hz0 hs0 hb0 rfl (by omega) kept_len kept_one v5 n (flat keptCells z) rfl ho6 (some ⟨g5, 0, none⟩) 1 1 [k] rfl hn6 (fun e => by cases e) (by unfold maxLen; omega) (by omega) (KeptW.bel hk6).size ?_
    intro v7 w7 ho7 hg7
    have hv5 : ∀ q, v5.ownBlock = some q → w3.heap.size ≤ q := fun q hq => (World.ownsRow.lt ho6 q hq).1
    have hk7 : KeptW w3 w7 := (KeptW.bel hk6).trans ⟨hg7.os, hg7.tape, hg7.output, hg7.size, fun q hq => hg7.block q (Nat.lt_of_lt_of_le hq (KeptW.bel hk6).size) (fun e => by have := hv5 q e.symm; omega)⟩
    refine hK _ _ _ (fun _ h => h) hk7 ?_
    clear hK K hK0 K0
    obtain ⟨A', c', rfl⟩ := own_slice_of ho7
    have hne : A' ≠ none ∧ STy w7 131 A' := ⟨fun e => by have := (own_nil ho7 e).1; omega, own_sty ho7⟩
    rw [← flat_app] at ho7
    have hs7 : KeptsAt w7 A' (n + 1) (z ++ [k]) := own_slice kept_len ho7 (by rw [List.length_append, H.out.hlen]; rfl) (by unfold maxLen; omega)
    have hbel := Hbw.out.trans ((KeptW.bel hk7).mono Hbw.out.size)
    have HF := Lib.hid (And.intro hs7 (And.intro hne hbel))
    clear hs7 hne hbel ho7 hg7 hv5 hk7 hk6 hn6 ho6
    refine RegJ.reads ?_
    intro K hK
    go_simp
    refine ⟨_, fun _ _ => rfl, hK _ ?_⟩
    clear hK K
    refine RegJ.nil ?_
    go_wp2_with fail
    go_ret
    exact ⟨A', c', rfl, HF.out.1, HF.out.2.1, HF.out.2.2⟩
  · skip
    refine RegJ.turns (fun _ => trivial) ?_
    intro K K0 hK hK0
    go_simp
    have hb6 := (Below.refl w4.heap.size w4).alloc (Nat.le_refl _) (.cells (keptCells k).toArray 131)
    have qk : KeptW w3 (w4.alloc (.cells (keptCells k).toArray 131)) := KeptW.mono hkd hb6
    have qn := kept_new w4 k
    refine hK _ _ (w4.alloc (.cells (keptCells k).toArray 131)) (fun _ h => h) qk ?_
    clear hK K hK0 K0 hb6
    generalize w4.alloc (.cells (keptCells k).toArray 131) = wq at *
    generalize w4.heap.size = g5 at *
    refine RegJ.turns (fun _ => trivial) ?_
    intro K K0 hK hK0
    rw [if_pos (by simp [Region.wanted])]
    refine RegK.op_wide rfl ?_
    refine wp_append_slice (enc := keptCells) _ _ 77 rfl w3.heap.size 131 i0 _ 32 Try.underlying77 hi0 hz0 hs0 hb0 rfl (by omega) kept_len kept_one (.slice none 0 0) 0 [] rfl (World.ownsRow_nil _ _ _ _) A n cap z rfl (H.out.below (Hbw.out.trans ((KeptW.bel qk).mono Hbw.out.size))) Hnil.out (by unfold maxLen; omega) (by omega) (KeptW.bel qk).size ?_
    intro v5 w5 ho5 hg5
    have hb5 : Below wq.heap.size wq w5 := ⟨hg5.os, hg5.tape, hg5.output, hg5.size, fun q hq => hg5.block q hq (fun e => by cases e)⟩
    have hk5 : KeptW w3 w5 := KeptW.mono qk hb5
    refine hK _ _ _ (fun _ h => h) hk5 ?_
    clear hK K hK0 K0 hg5
    rw [Nat.zero_add, List.nil_append] at ho5
    have ho6 := ho5
    have hk6 := hk5
    have hn6 := qn.below hb5
    clear ho5 hk5 hb5 qn qk
    refine RegJ.turns (fun _ => trivial) ?_
    intro K K0 hK hK0
    rw [if_pos (by simp [Region.wanted])]
    refine RegK.op_wide rfl ?_
    refine wp_append_slice (enc := keptCells) _ _ 77 rfl w3.heap.size 131 i0 _ 32 Try.underlying77 hi0 hz0 hs0 hb0 rfl (by omega) kept_len kept_one v5 n (flat keptCells z) rfl ho6 (some ⟨g5, 0, none⟩) 1 1 [k] rfl hn6 (fun e => by cases e) (by unfold maxLen; omega) (by omega) (KeptW.bel hk6).size ?_
    intro v7 w7 ho7 hg7
    have hv5 : ∀ q, v5.ownBlock = some q → w3.heap.size ≤ q := fun q hq => (World.ownsRow.lt ho6 q hq).1
    have hk7 : KeptW w3 w7 := (KeptW.bel hk6).trans ⟨hg7.os, hg7.tape, hg7.output, hg7.size, fun q hq => hg7.block q (Nat.lt_of_lt_of_le hq (KeptW.bel hk6).size) (fun e => by have := hv5 q e.symm; omega)⟩
    refine hK _ _ _ (fun _ h => h) hk7 ?_
    clear hK K hK0 K0
    obtain ⟨A', c', rfl⟩ := own_slice_of ho7
    have hne : A' ≠ none ∧ STy w7 131 A' := ⟨fun e => by have := (own_nil ho7 e).1; omega, own_sty ho7⟩
    rw [← flat_app] at ho7
    have hs7 : KeptsAt w7 A' (n + 1) (z ++ [k]) := own_slice kept_len ho7 (by rw [List.length_append, H.out.hlen]; rfl) (by unfold maxLen; omega)
    have hbel := Hbw.out.trans ((KeptW.bel hk7).mono Hbw.out.size)
    have HF := Lib.hid (And.intro hs7 (And.intro hne hbel))
    clear hs7 hne hbel ho7 hg7 hv5 hk7 hk6 hn6 ho6
    refine RegJ.reads ?_
    intro K hK
    go_simp
    refine ⟨_, fun _ _ => rfl, hK _ ?_⟩
    clear hK K
    refine RegJ.nil ?_
    go_wp2_with fail
    go_ret
    exact ⟨A', c', rfl, HF.out.1, HF.out.2.1, HF.out.2.2⟩
end Go.Proofs.Ytkngadbeflepoaa
