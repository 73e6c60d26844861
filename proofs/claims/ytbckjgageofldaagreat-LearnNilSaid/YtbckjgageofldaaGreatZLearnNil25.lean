/- A law on regions that draw their order where two operations that turn the world may be up at once: the plan forks. Over RegK. No condition. -/
import Derived.Test.YtbckjgageofldaaGreatZLearnNil4
import Derived.Test.YtbckjgageofldaaGreatZLearnNil24
import Derived.Test.YtbckjgageofldaaGreatZLearnNil16
import Derived.Test.YtbckjgageofldaaGreatZLearnNil10
import Derived.Test.YtbckjgageofldaaGreatZLearnNil18
namespace Go.Proofs.YtbckjgageofldaaGreat.RegJ
open Go RegK
inductive Plan where
 | nil : Plan
 | step (k e : Nat) (r : Plan) : Plan
 | fork (k : Nat) (r : Plan) (j : Nat) (s : Plan) : Plan
inductive PlanO where
 | nil : PlanO
 | bad : PlanO
 | step (o : Oper) (e : Nat) (r : PlanO) : PlanO
 | fork (o : Oper) (r : PlanO) (u : Oper) (s : PlanO) : PlanO
def Plan.len : Plan → Nat
 | .nil => 0
 | .step _ _ r => r.len + 1
 | .fork _ r _ _ => r.len + 1
def pickJ (l : List Oper) : Plan → PlanO
 | .nil => .nil
 | .step k e r => match l[k]? with | some o => .step o e (pickJ l r) | none => .bad
 | .fork k r j s => match l[k]?, l[j]? with | some o, some u => .fork o (pickJ l r) u (pickJ l s) | _, _ => .bad
section
variable {F : Fence} {n : Nat} {P : Program} {ops : Array Oper} {Q : Exit → Act → World → Prop} {md : Region.Mode}
def canJ (F : Fence) (n : Nat) (P : Program) (ops : Array Oper) (Q : Exit → Act → World → Prop) : PlanO → (World → Prop) → Act → World → Prop
 | .nil, _, a, w => Q .normal a w
 | .bad, _, _, _ => False
 | .step o 0 r, R, a, w =>
  if Region.wanted o (yielded ops a.tmps) then ∃ v, (∀ x, R x → (execOp a.eval o).run P x = .ok (.value v) x) ∧ canJ F n P ops Q r R (a.put o.dst v) w
  else canJ F n P ops Q r R (a.put o.dst undef) w
 | .step o (_ + 1) r, R, a, w =>
  if Region.wanted o (yielded ops a.tmps) then o.wpIn F n P a w (fun a' w' => ∃ R' : World → Prop, (∀ x, R' x → R x) ∧ R' w' ∧ canJ F n P ops Q r R' a' w') Q
  else (∀ f, o.about P w a.eval = some f → F.fn f) ∧ canJ F n P ops Q r R (a.put o.dst undef) w
 | .fork o r u s, R, a, w =>
  (if Region.wanted o (yielded ops a.tmps) then o.wpIn F n P a w (fun a' w' => ∃ R' : World → Prop, (∀ x, R' x → R x) ∧ R' w' ∧ canJ F n P ops Q r R' a' w') Q
   else (∀ f, o.about P w a.eval = some f → F.fn f) ∧ canJ F n P ops Q r R (a.put o.dst undef) w) ∧
  (if Region.wanted u (yielded ops a.tmps) then u.wpIn F n P a w (fun a' w' => ∃ R' : World → Prop, (∀ x, R' x → R x) ∧ R' w' ∧ canJ F n P ops Q s R' a' w') Q
   else (∀ f, u.about P w a.eval = some f → F.fn f) ∧ canJ F n P ops Q s R (a.put u.dst undef) w)
def canJB (md : Region.Mode) (ops : Array Oper) : Plan → Array Bool → Bool
 | .nil, listed => (Region.ready md ops listed).isEmpty
 | .step k 0 r, listed => decide (k < ops.size) && (Region.ready md ops listed).contains k && Region.free md ops listed k && (match ops[k]? with | some o => noCall o | none => false) && canJB md ops r (listed.setIfInBounds k true)
 | .step k (_ + 1) r, listed => decide (k < ops.size) && Region.ready md ops listed == [k] && canJB md ops r (listed.setIfInBounds k true)
 | .fork k r j s, listed => decide (k < ops.size) && decide (j < ops.size) && Region.ready md ops listed == [k, j] && r.len == s.len && canJB md ops r (listed.setIfInBounds k true) && canJB md ops s (listed.setIfInBounds j true)
theorem any_canJ (hro : ∀ o ∈ ops, noDefer o = true) (hs : Region.noSelect ops = true) (hQ : ∀ c a d v w, Q (.panic c) (Act.put a d v) w → Q (.panic c) a w) : ∀ (r : Plan) (listed : Array Bool) (R : World → Prop) (a : Act) (w : World),
  listed.size = ops.size → Closed md ops listed → canJB md ops r listed = true → R w → canJ F n P ops Q (pickJ ops.toList r) R a w → anyR (fun _ => false) F n P md ops Q r.len listed R a w
 | .nil, _, _, _, _, _, _, hB, _, h => ⟨by simpa [canJB] using hB, h⟩
 | .step k 0 r, listed, R, a, w, hsz, hcl, hB, hR, h => by
  simp only [canJB, Bool.and_eq_true, decide_eq_true_eq] at hB
  obtain ⟨⟨⟨⟨hk, hr⟩, hf⟩, hc⟩, hB'⟩ := hB
  have h0 : ops[k]? = some ops[k] := Array.getElem?_eq_getElem hk
  have h0' : ops.toList[k]? = some ops[k] := by simp [hk]
  simp only [h0] at hc
  have hsz' : (listed.setIfInBounds k true).size = ops.size := by simpa using hsz
  have hcl' := hcl.set (i := k) (by simpa using hr)
  simp only [pickJ, h0', canJ] at h
  have hbs : ∀ j, listed.getD j true = false → j ≠ k → (fun _ => false) j = true → k ∈ back md ops ops.size (onsOf md ops j) := fun j _ _ h3 => by cases h3
  by_cases hw : Region.wanted ops[k] (yielded ops a.tmps) = true
  ·
   simp only [hw, if_true] at h
   obtain ⟨v, hv, hK⟩ := h
   exact first hro h0 hc (Region.noSelect_spec hs) (fun c a w => hQ c a _ _ w) r.len listed R a w (Region.free_spec h0 hf) hbs hcl (by simpa using hr) hR (.inl ⟨hw, hv⟩) (any_canJ hro hs hQ r _ R _ w hsz' hcl' hB' hR hK)
  ·
   simp only [hw] at h
   exact first hro h0 hc (Region.noSelect_spec hs) (fun c a w => hQ c a _ _ w) r.len listed R a w (Region.free_spec h0 hf) hbs hcl (by simpa using hr) hR (.inr ⟨by simpa using hw, rfl⟩) (any_canJ hro hs hQ r _ R _ w hsz' hcl' hB' hR h)
 | .step k (m + 1) r, listed, R, a, w, hsz, hcl, hB, hR, h => by
  simp only [canJB, Bool.and_eq_true, beq_iff_eq, decide_eq_true_eq] at hB
  obtain ⟨⟨hk, hr⟩, hB'⟩ := hB
  have h0 : ops[k]? = some ops[k] := Array.getElem?_eq_getElem hk
  have h0' : ops.toList[k]? = some ops[k] := by simp [hk]
  have hsz' : (listed.setIfInBounds k true).size = ops.size := by simpa using hsz
  have hcl' := hcl.set (i := k) (by rw [hr]; simp)
  simp only [pickJ, h0', canJ] at h
  refine ⟨fun h => (by rw [hr] at h; cases h), fun j hj => ?_⟩
  rw [hr] at hj
  obtain rfl : j = k := by simpa using hj
  unfold wpOpIn
  simp only [h0]
  by_cases hw : Region.wanted ops[j] (yielded ops a.tmps) = true
  ·
   simp only [hw, if_true] at h ⊢
   exact Oper.wpIn_mono (fun a' w' ⟨R', g0, g1, g2⟩ => ⟨R', g1, .inr g0, any_canJ hro hs hQ r _ R' a' w' hsz' hcl' hB' g1 g2⟩) h
  ·
   simp only [hw] at h ⊢
   exact ⟨h.1, R, hR, .inr fun _ h => h, any_canJ hro hs hQ r _ R _ w hsz' hcl' hB' hR h.2⟩
 | .fork k r j s, listed, R, a, w, hsz, hcl, hB, hR, h => by
  simp only [canJB, Bool.and_eq_true, beq_iff_eq, decide_eq_true_eq] at hB
  obtain ⟨⟨⟨⟨⟨hk, hj⟩, hr⟩, hlen⟩, hB1⟩, hB2⟩ := hB
  have h0 : ops[k]? = some ops[k] := Array.getElem?_eq_getElem hk
  have h0' : ops.toList[k]? = some ops[k] := by simp [hk]
  have g0 : ops[j]? = some ops[j] := Array.getElem?_eq_getElem hj
  have g0' : ops.toList[j]? = some ops[j] := by simp [hj]
  have hcl1 := hcl.set (i := k) (by rw [hr]; simp)
  have hcl2 := hcl.set (i := j) (by rw [hr]; simp)
  simp only [pickJ, h0', g0', canJ] at h
  obtain ⟨h1, h2⟩ := h
  refine ⟨fun h => (by rw [hr] at h; cases h), fun i hi => ?_⟩
  rw [hr] at hi
  have hi' : i = k ∨ i = j := by simpa using hi
  rcases hi' with rfl | rfl
  ·
   unfold wpOpIn
   simp only [h0]
   by_cases hw : Region.wanted ops[i] (yielded ops a.tmps) = true
   ·
    simp only [hw, if_true] at h1 ⊢
    exact Oper.wpIn_mono (fun a' w' ⟨R', g0, g1, g2⟩ => ⟨R', g1, .inr g0, any_canJ hro hs hQ r _ R' a' w' (by simpa using hsz) hcl1 hB1 g1 g2⟩) h1
   ·
    simp only [hw] at h1 ⊢
    exact ⟨h1.1, R, hR, .inr fun _ h => h, any_canJ hro hs hQ r _ R _ w (by simpa using hsz) hcl1 hB1 hR h1.2⟩
  ·
   unfold wpOpIn
   simp only [g0]
   by_cases hw : Region.wanted ops[i] (yielded ops a.tmps) = true
   ·
    simp only [hw, if_true] at h2 ⊢
    exact Oper.wpIn_mono (fun a' w' ⟨R', g0, g1, g2⟩ => ⟨R', g1, .inr g0, by
     have := any_canJ hro hs hQ s _ R' a' w' (by simpa using hsz) hcl2 hB2 g1 g2
     show anyR (fun _ => false) F n P md ops Q r.len _ _ _ _
     rw [hlen]
     exact this⟩) h2
   ·
    simp only [hw] at h2 ⊢
    exact ⟨h2.1, R, hR, .inr fun _ h => h, by
     have := any_canJ hro hs hQ s _ R _ w (by simpa using hsz) hcl2 hB2 hR h2.2
     show anyR (fun _ => false) F n P md ops Q r.len _ _ _ _
     rw [hlen]
     exact this⟩
structure Can (F : Fence) (n : Nat) (P : Program) (ops : Array Oper) (Q : Exit → Act → World → Prop) (l : PlanO) (R : World → Prop) (a : Act) (w : World) : Prop where
 out : canJ F n P ops Q l R a w
theorem wpIn_region_plan (R : World → Prop) (π : Plan) {id : Nat} {a : Act} {w : World} {l : List Oper} (hro : l.all noDefer = true) (hm : P.follows .mixedOrders = true)
  (hB : (Region.noSelect l.toArray && canJB .any l.toArray π (Array.replicate l.length false) && (π.len == l.length)) = true)
  (hQ : ∀ c a d v w, Q (.panic c) (Act.put a d v) w → Q (.panic c) a w) (hR : R { w with drawn := w.drawn + 1 })
  (h : Can F n P l.toArray Q (pickJ l π) R a { w with drawn := w.drawn + 1 }) : (Code.region id l.toArray true).wpIn F n P Q a w := by
 simp only [Bool.and_eq_true, beq_iff_eq] at hB
 obtain ⟨⟨h1, h2⟩, h4⟩ := hB
 refine wpIn_region_any hm (any_of (bar := fun _ => false) _ _ R _ _ ?_)
 have := any_canJ (F := F) (n := n) (P := P) (ops := l.toArray) (md := .any) (Q := Q) (fun o ho => List.all_eq_true.1 hro o (by simpa using ho)) h1 hQ π (Array.replicate l.length false) R a _ (by simp) (Closed.none _) h2 hR (by simpa using h.out)
 simpa [h4] using this
theorem reads {R : World → Prop} {a : Act} {w : World} {o : Oper} {r : PlanO}
  (h : ∀ K : Act → Prop, (∀ a, Can F n P ops Q r R a w → K a) → if Region.wanted o (yielded ops a.tmps) then ∃ v, (∀ x, R x → (execOp a.eval o).run P x = .ok (.value v) x) ∧ K (a.put o.dst v) else K (a.put o.dst undef)) :
  Can F n P ops Q (.step o 0 r) R a w := ⟨h _ (fun _ h => h.out)⟩
theorem turns (hfn : ∀ f, F.fn f) {R : World → Prop} {a : Act} {w : World} {o : Oper} {r : PlanO}
  (h : ∀ (K : Act → World → Prop) (K0 : Act → Prop), (∀ (R' : World → Prop) a w, (∀ x, R' x → R x) → R' w → Can F n P ops Q r R' a w → K a w) → (∀ a, Can F n P ops Q r R a w → K0 a) →
   if Region.wanted o (yielded ops a.tmps) then o.wpIn F n P a w K Q else K0 (a.put o.dst undef)) :
  Can F n P ops Q (.step o 1 r) R a w := by
 have h' := h (fun a' w' => ∃ R' : World → Prop, (∀ x, R' x → R x) ∧ R' w' ∧ canJ F n P ops Q r R' a' w') (fun a => canJ F n P ops Q r R a w) (fun R' _ _ h0 h1 h2 => ⟨R', h0, h1, h2.out⟩) (fun _ h => h.out)
 refine ⟨?_⟩
 simp only [canJ]
 split
 ·
  rename_i hw; rw [if_pos hw] at h'; exact h'
 ·
  rename_i hw; rw [if_neg hw] at h'; exact ⟨fun f _ => hfn f, h'⟩
theorem forks {R : World → Prop} {a : Act} {w : World} {o u : Oper} {r s : PlanO} (h1 : Can F n P ops Q (.step o 1 r) R a w) (h2 : Can F n P ops Q (.step u 1 s) R a w) : Can F n P ops Q (.fork o r u s) R a w := ⟨⟨h1.out, h2.out⟩⟩
theorem nil {R : World → Prop} {a : Act} {w : World} (h : Q .normal a w) : Can F n P ops Q .nil R a w := ⟨h⟩
end
end Go.Proofs.YtbckjgageofldaaGreat.RegJ
namespace Go.Proofs.YtbckjgageofldaaGreat
open Go.RowKit
def setsOk (M : MacV) : Bool := mayS M.mem M.all && decide (M.all = bothS M.all M.all) && decide (M.mem = bothS M.mem M.mem)
theorem both_bel (x y : Nat) (hx : x < 256) (hy : y < 256) (w : World) : Calls Tryz.prog 74 #[.int .u8 (x : Int), .int .u8 (y : Int)] w fun e w' => e = .returned (.int .u8 (bothS x y : Int)) ∧ Below w.heap.size w w' :=
 (both_any x y hx hy w).mono fun e w' h => ⟨h.1, by rw [← h.2]; exact Below.refl _ _⟩
theorem mayS_bel (x y : Nat) (hx : x < 256) (hy : y < 256) (w : World) : Calls Tryz.prog 73 #[.int .u8 (x : Int), .int .u8 (y : Int)] w fun e w' => e = .returned (.bool (mayS x y)) ∧ Below w.heap.size w w' :=
 (mayS_any x y hx hy w).mono fun e w' h => ⟨h.1, by rw [← h.2]; exact Below.refl _ _⟩
set_option maxRecDepth 100000 in
set_option maxHeartbeats 8000000 in
theorem sets_any (M : MacV) (P : Option Addr) (w : World) (ha : M.all < 256) (hm : M.mem < 256) :
  Calls Tryz.prog 118 #[.agg (macCells M P).toArray] w fun e w' => e = .returned (.bool (setsOk M)) ∧ Below w.heap.size w w' := by
 have hb1 := (Below.refl w.heap.size w).alloc (Nat.le_refl _) (.cells (macCells M P).toArray 36)
 have hp1 : PartAt (w.alloc (.cells (macCells M P).toArray 36)) w.heap.size M P := heap_alloc_new _ _
 obtain ⟨ok, hok⟩ : ∃ b, setsOk M = b := ⟨_, rfl⟩
 have hok0 := hok
 rw [hok]
 unfold setsOk at hok0
 have Hm := Lib.hid (fun y : World => mayS_bel M.mem M.all hm ha y)
 have H1 := Lib.hid (fun y : World => both_bel M.all M.all ha ha y)
 have H2 := Lib.hid (fun y : World => both_bel M.mem M.mem hm hm y)
 generalize mayS M.mem M.all = b1 at *
 generalize bothS M.all M.all = q1 at *
 generalize bothS M.mem M.mem = q2 at *
 have e1 : ((M.all : Int) == (q1 : Int)) = decide (M.all = q1) := by
  by_cases h : M.all = q1
  ·
   simp [h]
  ·
   simp [h]; omega
 have e2 : ((M.mem : Int) == (q2 : Int)) = decide (M.mem = q2) := by
  by_cases h : M.mem = q2
  ·
   simp [h]
  ·
   simp [h]; omega
 generalize decide (M.all = q1) = b2 at *
 generalize decide (M.mem = q2) = b3 at *
 have Hok := Lib.hid hok0; clear hok0 hok
 rw [mac_eta]
 go_enter Tryz.func118, Tryz.ntmps118
 go_upto_region 1 with fail
 change Code.wp _ _ _ _ (w.alloc (.cells (macCells M P).toArray 36))
 generalize w.alloc (.cells (macCells M P).toArray 36) = w1 at *
 have Hp1 := Lib.hid hp1; clear hp1
 have Hb1 := Lib.hid hb1; clear hb1
 cases b1 with
 | false =>
  refine (wpIn_wide (n := 1)).1 ?_
  refine RegJ.wpIn_region_plan (F := Fence.wide) (KeptW w1) (.step 0 0 (.step 1 0 (.step 2 0 (.step 3 0 (.step 4 1 (.step 5 0 (.step 6 0 (.step 7 0 (.step 8 0 (.step 9 0 (.step 10 0 (.step 11 0 (.step 12 1 (.step 13 0 (.step 14 0 (.step 15 0 (.step 16 0 (.step 17 0 (.step 18 0 (.step 19 0 (.step 20 0 (.step 21 0 (.step 22 1 (.step 23 0 (.step 24 0 (.step 25 0 .nil)))))))))))))))))))))))))) (by kernel_rfl) (by kernel_rfl) (by kernel_rfl) (fun _ _ d _ _ h => by cases d <;> exact h) ⟨rfl, rfl, rfl, Nat.le_refl _, fun _ _ => rfl⟩ ?_
  dsimp only [RegJ.pickJ, List.getElem?_cons_zero, List.getElem?_cons_succ]
  change RegJ.Can _ _ _ _ _ _ _ _ w1.drew
  have hkd : KeptW w1 w1.drew := ⟨rfl, rfl, rfl, Nat.le_refl _, fun _ _ => rfl⟩
  generalize w1.drew = v1 at *
  refine RegJ.reads ?_; intro K hK; go_simp; (first | refine ⟨_, fun _ _ => rfl, hK _ ?_⟩ | refine hK _ ?_); clear hK K
  refine RegJ.reads ?_
  intro K hK
  go_simp
  refine ⟨.int .u8 (M.mem : Int), fun y hy => ?_, hK _ ?_⟩
  ·
   obtain ⟨f0, f1, f14⟩ := (show PartAt y w.heap.size M P from ((KeptW.bel hy).block _ (Array.getElem?_eq_some_iff.1 Hp1.out).1).trans Hp1.out).cells
   go_simp
  clear hK K
  refine RegJ.reads ?_; intro K hK; go_simp; (first | refine ⟨_, fun _ _ => rfl, hK _ ?_⟩ | refine hK _ ?_); clear hK K
  refine RegJ.reads ?_
  intro K hK
  go_simp
  refine ⟨.int .u8 (M.all : Int), fun y hy => ?_, hK _ ?_⟩
  ·
   obtain ⟨f0, f1, f14⟩ := (show PartAt y w.heap.size M P from ((KeptW.bel hy).block _ (Array.getElem?_eq_some_iff.1 Hp1.out).1).trans Hp1.out).cells
   go_simp
  clear hK K
  refine RegJ.turns (fun _ => trivial) ?_
  intro K K0 hK hK0
  go_simp
  refine ⟨trivial, ?_⟩
  refine (callsIn_wide.2 (Hm.out v1)).mono ?_
  rintro e v2 ⟨rfl, hb7⟩
  have v2k : KeptW w1 v2 := KeptW.mono hkd hb7
  refine hK _ _ _ (fun _ h => h) v2k ?_
  clear hK K hK0 K0
  iterate 2 (refine RegJ.reads ?_; intro K hK; go_simp; (first | refine ⟨_, fun _ _ => rfl, hK _ ?_⟩ | refine hK _ ?_); clear hK K)
  (refine RegJ.reads ?_; intro K hK; go_simp; refine hK _ ?_; clear hK K)
  refine RegJ.reads ?_; intro K hK; go_simp; (first | refine ⟨_, fun _ _ => rfl, hK _ ?_⟩ | refine hK _ ?_); clear hK K
  (refine RegJ.reads ?_; intro K hK; go_simp; refine hK _ ?_; clear hK K)
  refine RegJ.reads ?_; intro K hK; go_simp; (first | refine ⟨_, fun _ _ => rfl, hK _ ?_⟩ | refine hK _ ?_); clear hK K
  (refine RegJ.reads ?_; intro K hK; go_simp; refine hK _ ?_; clear hK K)
  (refine RegJ.turns (fun _ => trivial) ?_; intro K K0 hK hK0; go_simp; refine hK0 _ ?_; clear hK K hK0 K0)
  iterate 4 (refine RegJ.reads ?_; intro K hK; go_simp; (first | refine ⟨_, fun _ _ => rfl, hK _ ?_⟩ | refine hK _ ?_); clear hK K)
  (refine RegJ.reads ?_; intro K hK; go_simp; refine hK _ ?_; clear hK K)
  refine RegJ.reads ?_; intro K hK; go_simp; (first | refine ⟨_, fun _ _ => rfl, hK _ ?_⟩ | refine hK _ ?_); clear hK K
  (refine RegJ.reads ?_; intro K hK; go_simp; refine hK _ ?_; clear hK K)
  refine RegJ.reads ?_; intro K hK; go_simp; (first | refine ⟨_, fun _ _ => rfl, hK _ ?_⟩ | refine hK _ ?_); clear hK K
  (refine RegJ.reads ?_; intro K hK; go_simp; refine hK _ ?_; clear hK K)
  (refine RegJ.turns (fun _ => trivial) ?_; intro K K0 hK hK0; go_simp; refine hK0 _ ?_; clear hK K hK0 K0)
  iterate 3 (refine RegJ.reads ?_; intro K hK; go_simp; (first | refine ⟨_, fun _ _ => rfl, hK _ ?_⟩ | refine hK _ ?_); clear hK K)
  refine RegJ.nil ?_
  have HJ := Lib.hid (Hb1.out.trans ((KeptW.bel v2k).mono Hb1.out.size))
  go_wp2_with fail
  go_ret
  exact ⟨by rw [← Hok.out]; rfl, HJ.out⟩
 | true =>
 cases b2 with
 | false =>
  refine (wpIn_wide (n := 1)).1 ?_
  refine RegJ.wpIn_region_plan (F := Fence.wide) (KeptW w1) (.step 0 0 (.step 1 0 (.step 2 0 (.step 3 0 (.step 4 1 (.step 5 0 (.step 6 0 (.step 7 0 (.step 8 0 (.step 9 0 (.step 10 0 (.step 11 0 (.step 12 1 (.step 13 0 (.step 14 0 (.step 15 0 (.step 16 0 (.step 17 0 (.step 18 0 (.step 19 0 (.step 20 0 (.step 21 0 (.step 22 1 (.step 23 0 (.step 24 0 (.step 25 0 .nil)))))))))))))))))))))))))) (by kernel_rfl) (by kernel_rfl) (by kernel_rfl) (fun _ _ d _ _ h => by cases d <;> exact h) ⟨rfl, rfl, rfl, Nat.le_refl _, fun _ _ => rfl⟩ ?_
  dsimp only [RegJ.pickJ, List.getElem?_cons_zero, List.getElem?_cons_succ]
  change RegJ.Can _ _ _ _ _ _ _ _ w1.drew
  have hkd : KeptW w1 w1.drew := ⟨rfl, rfl, rfl, Nat.le_refl _, fun _ _ => rfl⟩
  generalize w1.drew = v1 at *
  refine RegJ.reads ?_; intro K hK; go_simp; (first | refine ⟨_, fun _ _ => rfl, hK _ ?_⟩ | refine hK _ ?_); clear hK K
  refine RegJ.reads ?_
  intro K hK
  go_simp
  refine ⟨.int .u8 (M.mem : Int), fun y hy => ?_, hK _ ?_⟩
  ·
   obtain ⟨f0, f1, f14⟩ := (show PartAt y w.heap.size M P from ((KeptW.bel hy).block _ (Array.getElem?_eq_some_iff.1 Hp1.out).1).trans Hp1.out).cells
   go_simp
  clear hK K
  refine RegJ.reads ?_; intro K hK; go_simp; (first | refine ⟨_, fun _ _ => rfl, hK _ ?_⟩ | refine hK _ ?_); clear hK K
  refine RegJ.reads ?_
  intro K hK
  go_simp
  refine ⟨.int .u8 (M.all : Int), fun y hy => ?_, hK _ ?_⟩
  ·
   obtain ⟨f0, f1, f14⟩ := (show PartAt y w.heap.size M P from ((KeptW.bel hy).block _ (Array.getElem?_eq_some_iff.1 Hp1.out).1).trans Hp1.out).cells
   go_simp
  clear hK K
  refine RegJ.turns (fun _ => trivial) ?_
  intro K K0 hK hK0
  go_simp
  refine ⟨trivial, ?_⟩
  refine (callsIn_wide.2 (Hm.out v1)).mono ?_
  rintro e v2 ⟨rfl, hb7⟩
  have v2k : KeptW w1 v2 := KeptW.mono hkd hb7
  refine hK _ _ _ (fun _ h => h) v2k ?_
  clear hK K hK0 K0
  iterate 2 (refine RegJ.reads ?_; intro K hK; go_simp; (first | refine ⟨_, fun _ _ => rfl, hK _ ?_⟩ | refine hK _ ?_); clear hK K)
  refine RegJ.reads ?_
  intro K hK
  go_simp
  refine ⟨.int .u8 (M.all : Int), fun y hy => ?_, hK _ ?_⟩
  ·
   obtain ⟨f0, f1, f14⟩ := (show PartAt y w.heap.size M P from ((KeptW.bel hy).block _ (Array.getElem?_eq_some_iff.1 Hp1.out).1).trans Hp1.out).cells
   go_simp
  clear hK K
  refine RegJ.reads ?_; intro K hK; go_simp; (first | refine ⟨_, fun _ _ => rfl, hK _ ?_⟩ | refine hK _ ?_); clear hK K
  refine RegJ.reads ?_
  intro K hK
  go_simp
  refine ⟨.int .u8 (M.all : Int), fun y hy => ?_, hK _ ?_⟩
  ·
   obtain ⟨f0, f1, f14⟩ := (show PartAt y w.heap.size M P from ((KeptW.bel hy).block _ (Array.getElem?_eq_some_iff.1 Hp1.out).1).trans Hp1.out).cells
   go_simp
  clear hK K
  refine RegJ.reads ?_; intro K hK; go_simp; (first | refine ⟨_, fun _ _ => rfl, hK _ ?_⟩ | refine hK _ ?_); clear hK K
  refine RegJ.reads ?_
  intro K hK
  go_simp
  refine ⟨.int .u8 (M.all : Int), fun y hy => ?_, hK _ ?_⟩
  ·
   obtain ⟨f0, f1, f14⟩ := (show PartAt y w.heap.size M P from ((KeptW.bel hy).block _ (Array.getElem?_eq_some_iff.1 Hp1.out).1).trans Hp1.out).cells
   go_simp
  clear hK K
  refine RegJ.turns (fun _ => trivial) ?_
  intro K K0 hK hK0
  go_simp
  refine ⟨trivial, ?_⟩
  refine (callsIn_wide.2 (H1.out v2)).mono ?_
  rintro e v3 ⟨rfl, hb7⟩
  have v3k : KeptW w1 v3 := KeptW.mono v2k hb7
  refine hK _ _ _ (fun _ h => h) v3k ?_
  clear hK K hK0 K0
  iterate 4 (refine RegJ.reads ?_; intro K hK; go_simp; (first | refine ⟨_, fun _ _ => rfl, hK _ ?_⟩ | refine hK _ ?_); clear hK K)
  (refine RegJ.reads ?_; intro K hK; go_simp; refine hK _ ?_; clear hK K)
  refine RegJ.reads ?_; intro K hK; go_simp; (first | refine ⟨_, fun _ _ => rfl, hK _ ?_⟩ | refine hK _ ?_); clear hK K
  (refine RegJ.reads ?_; intro K hK; go_simp; refine hK _ ?_; clear hK K)
  refine RegJ.reads ?_; intro K hK; go_simp; (first | refine ⟨_, fun _ _ => rfl, hK _ ?_⟩ | refine hK _ ?_); clear hK K
  (refine RegJ.reads ?_; intro K hK; go_simp; refine hK _ ?_; clear hK K)
  (refine RegJ.turns (fun _ => trivial) ?_; intro K K0 hK hK0; go_simp; refine hK0 _ ?_; clear hK K hK0 K0)
  iterate 3 (refine RegJ.reads ?_; intro K hK; go_simp; (first | refine ⟨_, fun _ _ => rfl, hK _ ?_⟩ | refine hK _ ?_); clear hK K)
  refine RegJ.nil ?_
  have HJ := Lib.hid (Hb1.out.trans ((KeptW.bel v3k).mono Hb1.out.size))
  go_wp2_with fail
  go_ret
  exact ⟨by rw [← Hok.out]; rfl, HJ.out⟩
 | true =>
  refine (wpIn_wide (n := 1)).1 ?_
  refine RegJ.wpIn_region_plan (F := Fence.wide) (KeptW w1) (.step 0 0 (.step 1 0 (.step 2 0 (.step 3 0 (.step 4 1 (.step 5 0 (.step 6 0 (.step 7 0 (.step 8 0 (.step 9 0 (.step 10 0 (.step 11 0 (.step 12 1 (.step 13 0 (.step 14 0 (.step 15 0 (.step 16 0 (.step 17 0 (.step 18 0 (.step 19 0 (.step 20 0 (.step 21 0 (.step 22 1 (.step 23 0 (.step 24 0 (.step 25 0 .nil)))))))))))))))))))))))))) (by kernel_rfl) (by kernel_rfl) (by kernel_rfl) (fun _ _ d _ _ h => by cases d <;> exact h) ⟨rfl, rfl, rfl, Nat.le_refl _, fun _ _ => rfl⟩ ?_
  dsimp only [RegJ.pickJ, List.getElem?_cons_zero, List.getElem?_cons_succ]
  change RegJ.Can _ _ _ _ _ _ _ _ w1.drew
  have hkd : KeptW w1 w1.drew := ⟨rfl, rfl, rfl, Nat.le_refl _, fun _ _ => rfl⟩
  generalize w1.drew = v1 at *
  refine RegJ.reads ?_; intro K hK; go_simp; (first | refine ⟨_, fun _ _ => rfl, hK _ ?_⟩ | refine hK _ ?_); clear hK K
  refine RegJ.reads ?_
  intro K hK
  go_simp
  refine ⟨.int .u8 (M.mem : Int), fun y hy => ?_, hK _ ?_⟩
  ·
   obtain ⟨f0, f1, f14⟩ := (show PartAt y w.heap.size M P from ((KeptW.bel hy).block _ (Array.getElem?_eq_some_iff.1 Hp1.out).1).trans Hp1.out).cells
   go_simp
  clear hK K
  refine RegJ.reads ?_; intro K hK; go_simp; (first | refine ⟨_, fun _ _ => rfl, hK _ ?_⟩ | refine hK _ ?_); clear hK K
  refine RegJ.reads ?_
  intro K hK
  go_simp
  refine ⟨.int .u8 (M.all : Int), fun y hy => ?_, hK _ ?_⟩
  ·
   obtain ⟨f0, f1, f14⟩ := (show PartAt y w.heap.size M P from ((KeptW.bel hy).block _ (Array.getElem?_eq_some_iff.1 Hp1.out).1).trans Hp1.out).cells
   go_simp
  clear hK K
  refine RegJ.turns (fun _ => trivial) ?_
  intro K K0 hK hK0
  go_simp
  refine ⟨trivial, ?_⟩
  refine (callsIn_wide.2 (Hm.out v1)).mono ?_
  rintro e v2 ⟨rfl, hb7⟩
  have v2k : KeptW w1 v2 := KeptW.mono hkd hb7
  refine hK _ _ _ (fun _ h => h) v2k ?_
  clear hK K hK0 K0
  iterate 2 (refine RegJ.reads ?_; intro K hK; go_simp; (first | refine ⟨_, fun _ _ => rfl, hK _ ?_⟩ | refine hK _ ?_); clear hK K)
  refine RegJ.reads ?_
  intro K hK
  go_simp
  refine ⟨.int .u8 (M.all : Int), fun y hy => ?_, hK _ ?_⟩
  ·
   obtain ⟨f0, f1, f14⟩ := (show PartAt y w.heap.size M P from ((KeptW.bel hy).block _ (Array.getElem?_eq_some_iff.1 Hp1.out).1).trans Hp1.out).cells
   go_simp
  clear hK K
  refine RegJ.reads ?_; intro K hK; go_simp; (first | refine ⟨_, fun _ _ => rfl, hK _ ?_⟩ | refine hK _ ?_); clear hK K
  refine RegJ.reads ?_
  intro K hK
  go_simp
  refine ⟨.int .u8 (M.all : Int), fun y hy => ?_, hK _ ?_⟩
  ·
   obtain ⟨f0, f1, f14⟩ := (show PartAt y w.heap.size M P from ((KeptW.bel hy).block _ (Array.getElem?_eq_some_iff.1 Hp1.out).1).trans Hp1.out).cells
   go_simp
  clear hK K
  refine RegJ.reads ?_; intro K hK; go_simp; (first | refine ⟨_, fun _ _ => rfl, hK _ ?_⟩ | refine hK _ ?_); clear hK K
  refine RegJ.reads ?_
  intro K hK
  go_simp
  refine ⟨.int .u8 (M.all : Int), fun y hy => ?_, hK _ ?_⟩
  ·
   obtain ⟨f0, f1, f14⟩ := (show PartAt y w.heap.size M P from ((KeptW.bel hy).block _ (Array.getElem?_eq_some_iff.1 Hp1.out).1).trans Hp1.out).cells
   go_simp
  clear hK K
  refine RegJ.turns (fun _ => trivial) ?_
  intro K K0 hK hK0
  go_simp
  refine ⟨trivial, ?_⟩
  refine (callsIn_wide.2 (H1.out v2)).mono ?_
  rintro e v3 ⟨rfl, hb7⟩
  have v3k : KeptW w1 v3 := KeptW.mono v2k hb7
  refine hK _ _ _ (fun _ h => h) v3k ?_
  clear hK K hK0 K0
  iterate 4 (refine RegJ.reads ?_; intro K hK; go_simp; (first | refine ⟨_, fun _ _ => rfl, hK _ ?_⟩ | refine hK _ ?_); clear hK K)
  refine RegJ.reads ?_
  intro K hK
  go_simp
  refine ⟨.int .u8 (M.mem : Int), fun y hy => ?_, hK _ ?_⟩
  ·
   obtain ⟨f0, f1, f14⟩ := (show PartAt y w.heap.size M P from ((KeptW.bel hy).block _ (Array.getElem?_eq_some_iff.1 Hp1.out).1).trans Hp1.out).cells
   go_simp
  clear hK K
  refine RegJ.reads ?_; intro K hK; go_simp; (first | refine ⟨_, fun _ _ => rfl, hK _ ?_⟩ | refine hK _ ?_); clear hK K
  refine RegJ.reads ?_
  intro K hK
  go_simp
  refine ⟨.int .u8 (M.mem : Int), fun y hy => ?_, hK _ ?_⟩
  ·
   obtain ⟨f0, f1, f14⟩ := (show PartAt y w.heap.size M P from ((KeptW.bel hy).block _ (Array.getElem?_eq_some_iff.1 Hp1.out).1).trans Hp1.out).cells
   go_simp
  clear hK K
  refine RegJ.reads ?_; intro K hK; go_simp; (first | refine ⟨_, fun _ _ => rfl, hK _ ?_⟩ | refine hK _ ?_); clear hK K
  refine RegJ.reads ?_
  intro K hK
  go_simp
  refine ⟨.int .u8 (M.mem : Int), fun y hy => ?_, hK _ ?_⟩
  ·
   obtain ⟨f0, f1, f14⟩ := (show PartAt y w.heap.size M P from ((KeptW.bel hy).block _ (Array.getElem?_eq_some_iff.1 Hp1.out).1).trans Hp1.out).cells
   go_simp
  clear hK K
  refine RegJ.turns (fun _ => trivial) ?_
  intro K K0 hK hK0
  go_simp
  refine ⟨trivial, ?_⟩
  refine (callsIn_wide.2 (H2.out v3)).mono ?_
  rintro e v4 ⟨rfl, hb7⟩
  have v4k : KeptW w1 v4 := KeptW.mono v3k hb7
  refine hK _ _ _ (fun _ h => h) v4k ?_
  clear hK K hK0 K0
  iterate 3 (refine RegJ.reads ?_; intro K hK; go_simp; (first | refine ⟨_, fun _ _ => rfl, hK _ ?_⟩ | refine hK _ ?_); clear hK K)
  refine RegJ.nil ?_
  have HJ := Lib.hid (Hb1.out.trans ((KeptW.bel v4k).mono Hb1.out.size))
  go_wp2_with fail
  go_ret
  exact ⟨by rw [← Hok.out]; rfl, HJ.out⟩
end Go.Proofs.YtbckjgageofldaaGreat
namespace Go.Proofs.YtbckjgageofldaaGreat
open Go.RowKit
theorem toList_iff (b : ByteArray) : b.toList = [] ↔ b.size = 0 := by
 rw [ByteArray.toList_eq, show b.size = b.data.size from rfl, ← Array.length_toList]
 exact List.length_eq_zero_iff.symm
def may09 (c : CmdV) : Bool :=
  !(decide (3 < (c.client.toNat : Int)) || decide ((c.seq.toNat : Int) < 1) || decide (16 < (c.key.size : Int)) || decide (64 < (c.old.size : Int)) || decide (64 < (c.fresh.size : Int))) &&
    (if ((c.kind.toNat : Int) == 1) = true ∨ ((c.kind.toNat : Int) == 3) = true then decide (¬ c.key.toList = []) && decide (c.old.toList = []) && decide (c.fresh.toList = []) && ((c.set.toNat : Int) == 0)
     else if ((c.kind.toNat : Int) == 2) = true then decide (¬ c.key.toList = []) && decide (c.old.toList = []) && ((c.set.toNat : Int) == 0)
     else if ((c.kind.toNat : Int) == 4) = true then decide (¬ c.key.toList = []) && ((c.set.toNat : Int) == 0)
     else if ((c.kind.toNat : Int) == 5) = true then decide (c.key.toList = []) && decide (c.old.toList = []) && decide (c.fresh.toList = []) else false)
theorem may09_is (c : CmdV) : may09 c = mayC c := by
 unfold may09 mayC
 rw [Bool.eq_iff_iff]
 simp only [toList_iff]
 generalize c.key.size = nk
 generalize c.old.size = no
 generalize c.fresh.size = nf
 generalize c.client.toNat = ncl
 generalize c.seq.toNat = nsq
 generalize c.set.toNat = nst
 by_cases h1 : c.kind = 1
 ·
  simp [h1, hasOf, mostOf]
  omega
 by_cases h2 : c.kind = 2
 ·
  simp [h2, hasOf, mostOf]
  omega
 by_cases h3 : c.kind = 3
 ·
  simp [h3, hasOf, mostOf]
  omega
 by_cases h4 : c.kind = 4
 ·
  simp [h4, hasOf, mostOf]
  omega
 by_cases h5 : c.kind = 5
 ·
  simp [h5, hasOf, mostOf]
  omega
 have g : ∀ k : UInt8, c.kind ≠ k → ¬ (c.kind.toNat : Int) = (k.toNat : Int) := fun k h e => h (UInt8.toNat_inj.1 (by omega))
 have g1 := g 1 h1
 have g2 := g 2 h2
 have g3 := g 3 h3
 have g4 := g 4 h4
 have g5 := g 5 h5
 simp at g1 g2 g3 g4 g5
 simp [h1, h2, h3, h4, h5, hasOf, g1, g2, g3, g4, g5]
set_option maxRecDepth 100000 in
set_option maxHeartbeats 8000000 in
theorem may09_any (c : CmdV) (w : World) : Calls Tryz.prog 82 #[.agg (cmdCells c).toArray] w fun e w' => e = .returned (.bool (mayC c)) ∧ Below w.heap.size w w' := by
 obtain ⟨B, hB⟩ : ∃ B, mayC c = B := ⟨_, rfl⟩
 rw [hB]
 rw [← may09_is] at hB
 have HB := Lib.hid hB; clear hB
 have hc1 := CmdAt.new w c
 have hb1 := (Below.refl w.heap.size w).alloc (Nat.le_refl _) (.cells (cmdCells c).toArray 56)
 have HC := Lib.hid hc1; clear hc1
 have Hb := Lib.hid hb1; clear hb1
 rw [cmd_eta]
 go_enter Tryz.func82, Tryz.ntmps82
 go_upto_region 1 with fail
 change Code.wp _ _ _ _ (w.alloc (.cells (cmdCells c).toArray 56))
 generalize w.alloc (.cells (cmdCells c).toArray 56) = w1 at *
 obtain ⟨d0, d1, d2, d3, d4, d5, d6⟩ := HC.out.cells
 go_wp2_with fail
 all_goals (go_ret; exact ⟨by rw [← HB.out]; first | (simp [may09, *]; done) | (simp [may09, *]; intro _; omega) | (simp [may09, *]; rw [Bool.eq_iff_iff]; simp [*]; done) | (simp [may09, *]; rw [Bool.eq_iff_iff]; simp [*]; omega), Hb.out⟩)
end Go.Proofs.YtbckjgageofldaaGreat
namespace Go.Proofs.YtbckjgageofldaaGreat
open Go.RowKit
theorem find_look {S : Sh} (h : Asc S.kv) (k : ByteArray) : isAt S.kv k = (S.look k).isSome ∧ ∀ v, S.look k = some v → S.kv.getD (idxOf S.kv k) pdflt = (k, v) := by
 have key : ∀ v, S.look k = some v → isAt S.kv k = true ∧ S.kv.getD (idxOf S.kv k) pdflt = (k, v) := by
  intro v hv
  have hm := (look_kv k h v).1 hv
  obtain ⟨L, R, e⟩ := List.append_of_mem hm
  rw [e] at h ⊢
  obtain ⟨f1, _⟩ := filt_eq h
  obtain ⟨g1, _⟩ := idx_split k h
  have hle := idx_le (L ++ (k, v) :: R) k
  have hidx : idxOf (L ++ (k, v) :: R) k = L.length := by
   have := congrArg List.length (g1.trans f1)
   rw [List.length_take] at this
   omega
  refine ⟨?_, ?_⟩
  ·
   unfold isAt
   rw [hidx]
   simp
  ·
   rw [hidx, getD_right (Nat.le_refl _), Nat.sub_self]
   rfl
 refine ⟨?_, fun v hv => (key v hv).2⟩
 cases hl : S.look k with
 | some v => exact (key v hl).1
 | none =>
  show isAt S.kv k = false
  rw [Bool.eq_false_iff]
  intro hc
  have hlt := isAt_lt hc
  unfold isAt at hc
  rw [drop_pair hlt] at hc
  simp only [decide_eq_true_eq] at hc
  have hm := getD_in hlt
  generalize S.kv.getD (idxOf S.kv k) pdflt = p at *
  have := (look_kv k h p.2).2 (by rw [← hc]; exact hm)
  rw [hl] at this
  cases this
end Go.Proofs.YtbckjgageofldaaGreat
