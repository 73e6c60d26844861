/- Deltas: Patch: its five steps. Condition: the variables lie there. -/
import Derived.Test.YtkngadbeflepoaaZDeltaLeads35
import Derived.Test.YtkngadbeflepoaaZDeltaLeads36
import Derived.Test.YtkngadbeflepoaaZDeltaLeads26
import Derived.Test.YtkngadbeflepoaaZDeltaLeads23
namespace Go.Proofs.Ytkngadbeflepoaa
open Go.RowKit
/-- What a delta tells. -/
structure PaV where
  fr : Nat
  to_ : Nat
  mem : Nat
  tab : TabV
  sh : Sh
def paStep (i : Nat) (X : RdV × PaV) : RdV × PaV :=
  if i = 0 then ((X.1.sumP 8).2, { X.2 with fr := (X.1.sumP 8).1 }) else if i = 1 then ((X.1.sumP 8).2, { X.2 with to_ := (X.1.sumP 8).1 }) else if i = 2 then (X.1.byte.2, { X.2 with mem := X.1.byte.1.toNat })
  else if i = 3 then ((X.1.clients X.2.tab).2, { X.2 with tab := (X.1.clients X.2.tab).1 }) else ((X.1.keysD X.2.sh).2, { X.2 with sh := (X.1.keysD X.2.sh).1 })
theorem paStep_0 (X : RdV × PaV) : paStep 0 X = ((X.1.sumP 8).2, { X.2 with fr := (X.1.sumP 8).1 }) := by unfold paStep; rw [if_pos rfl]
theorem paStep_1 (X : RdV × PaV) : paStep 1 X = ((X.1.sumP 8).2, { X.2 with to_ := (X.1.sumP 8).1 }) := by unfold paStep; rw [if_neg (by decide), if_pos rfl]
theorem paStep_2 (X : RdV × PaV) : paStep 2 X = (X.1.byte.2, { X.2 with mem := X.1.byte.1.toNat }) := by unfold paStep; rw [if_neg (by decide), if_neg (by decide), if_pos rfl]
theorem paStep_3 (X : RdV × PaV) : paStep 3 X = ((X.1.clients X.2.tab).2, { X.2 with tab := (X.1.clients X.2.tab).1 }) := by unfold paStep; rw [if_neg (by decide), if_neg (by decide), if_neg (by decide), if_pos rfl]
theorem paStep_4 (X : RdV × PaV) : paStep 4 X = ((X.1.keysD X.2.sh).2, { X.2 with sh := (X.1.keysD X.2.sh).1 }) := by unfold paStep; rw [if_neg (by decide), if_neg (by decide), if_neg (by decide), if_neg (by decide)]
/-- From step i on, n steps, or the first error. -/
def paL : Nat → Nat → RdV × PaV → RdV × PaV
  | 0, _, X => X
  | n + 1, i, X => if (paStep i X).1.e = 0 then paL n (i + 1) (paStep i X) else paStep i X
def pfuncs (b gt gk : Nat) : List Value := [.func (.func 93) #[] #[.pointer (some ⟨b + 3, 0, none⟩), .pointer (some ⟨b + 4, 0, none⟩)], .func (.func 95) #[] #[.pointer (some ⟨b + 3, 0, none⟩), .pointer (some ⟨b + 5, 0, none⟩)], .func (.func 96) #[] #[.pointer (some ⟨b + 3, 0, none⟩), .pointer (some ⟨b + 6, 0, none⟩)], .func (.func 97) #[] #[.pointer (some ⟨b + 3, 0, none⟩), .pointer (some ⟨gt, 0, none⟩)], .func (.func 99) #[] #[.pointer (some ⟨b + 3, 0, none⟩), .pointer (some ⟨gk, 0, none⟩)]]
/-- Where Patch has its variables. -/
structure PaI (w0 : World) (gt gk gf : Nat) (A : MacV) (T : Tr) (X : RdV × PaV) (U : Tr) (w : World) : Prop where
  ma : MacAt w w0.heap.size A T.ptr
  res : MacAt w (w0.heap.size + 1) macNone none
  rd : RdAt w (w0.heap.size + 2) X.1
  box : w.heap[w0.heap.size + 3]? = some (.cells #[.pointer (some ⟨w0.heap.size + 2, 0, none⟩)] 141 (0, 0))
  fr : BoxAt w (w0.heap.size + 4) (.int .u64 (X.2.fr : Int)) 108
  to_ : BoxAt w (w0.heap.size + 5) (.int .u64 (X.2.to_ : Int)) 108
  mem : BoxAt w (w0.heap.size + 6) (.int .u8 (X.2.mem : Int)) 61
  tab : TabAt w gt X.2.tab
  key : BoxAt w gk (.pointer U.ptr) 25
  fn : w.heap[gf]? = some (.cells (pfuncs w0.heap.size gt gk).toArray 1 (0, 0))
  trA : TreeAt w T
  tr : TreeAt w U
  sh : U.sh = X.2.sh
  few : U.cnt ≤ T.cnt + 513
  sml : X.2.mem < 256
  bel : Below w0.heap.size w0 w
  ne : w0.heap.size + 6 < gt ∧ w0.heap.size + 6 < gk ∧ w0.heap.size + 6 < gf ∧ gt ≠ gk ∧ gt ≠ gf ∧ gk ≠ gf
theorem below_but {g : Nat} {w0 a b : World} (h : Below w0.heap.size w0 a) (hb : But g a.heap.size a b) (hg : w0.heap.size ≤ g) : Below w0.heap.size w0 b := h.trans ((hb.mono h.size).below hg)
section
variable {w0 w w' : World} {gt gk gf : Nat} {A : MacV} {T U : Tr} {X : RdV × PaV}
theorem PaI.only {R' : RdV} (h : PaI w0 gt gk gf A T X U w) (hr : RdAt w' (w0.heap.size + 2) R') (ho : But (w0.heap.size + 2) w.heap.size w w') : PaI w0 gt gk gf A T (R', X.2) U w' := by
  obtain ⟨n1, n2, n3, n4, n5, n6⟩ := h.ne
  have hk : ∀ {q : Nat} {o : Obj}, w.heap[q]? = some o → q ≠ w0.heap.size + 2 → w'.heap[q]? = some o := fun e hq => (ho.block _ (Array.getElem?_eq_some_iff.1 e).1 hq).trans e
  exact ⟨hk h.ma (by omega), hk h.res (by omega), hr, hk h.box (by omega), hk h.fr (by omega), hk h.to_ (by omega), hk h.mem (by omega), hk h.tab (by omega), hk h.key (by omega), hk h.fn (by omega), treeAt_but h.rd ho h.trA, treeAt_but h.rd ho h.tr, h.sh, h.few, h.sml, below_but h.bel ho (by omega), h.ne⟩
theorem PaI.below (h : PaI w0 gt gk gf A T X U w) (hb : Below w.heap.size w w') : PaI w0 gt gk gf A T X U w' := by
  have hk : ∀ {q : Nat} {o : Obj}, w.heap[q]? = some o → w'.heap[q]? = some o := fun e => (hb.block _ (Array.getElem?_eq_some_iff.1 e).1).trans e
  exact ⟨hk h.ma, hk h.res, ⟨hk h.rd.row, h.rd.len⟩, hk h.box, hk h.fr, hk h.to_, hk h.mem, hk h.tab, hk h.key, hk h.fn, h.trA.below hb, h.tr.below hb, h.sh, h.few, h.sml, h.bel.trans (hb.mono h.bel.size), h.ne⟩
theorem PaI.get (h : PaI w0 gt gk gf A T X U w) : w.cell? ⟨w0.heap.size + 3, 0, none⟩ = some (.pointer (some ⟨w0.heap.size + 2, 0, none⟩)) := cell_of_row _ _ _ _ _ _ h.box
theorem PaI.setFr (h : PaI w0 gt gk gf A T X U w) (n : Nat) : PaI w0 gt gk gf A T (X.1, { X.2 with fr := n }) U (w.setCell ⟨w0.heap.size + 4, 0, none⟩ (.int .u64 (n : Int))) := by
  obtain ⟨n1, n2, n3, n4, n5, n6⟩ := h.ne
  have hk : ∀ {q : Nat} {o : Obj}, w.heap[q]? = some o → q ≠ w0.heap.size + 4 → (w.setCell ⟨w0.heap.size + 4, 0, none⟩ (.int .u64 (n : Int))).heap[q]? = some o := fun e hq => (Below.heap_setCell _ _ _ _ (by exact hq)).trans e
  exact ⟨hk h.ma (by omega), hk h.res (by omega), ⟨hk h.rd.row (by omega), h.rd.len⟩, hk h.box (by omega), h.fr.set, hk h.to_ (by omega), hk h.mem (by omega), hk h.tab (by omega), hk h.key (by omega), hk h.fn (by omega), h.trA.set h.fr, h.tr.set h.fr, h.sh, h.few, h.sml, below_setV h.bel (by omega), h.ne⟩
theorem PaI.setTo (h : PaI w0 gt gk gf A T X U w) (n : Nat) : PaI w0 gt gk gf A T (X.1, { X.2 with to_ := n }) U (w.setCell ⟨w0.heap.size + 5, 0, none⟩ (.int .u64 (n : Int))) := by
  obtain ⟨n1, n2, n3, n4, n5, n6⟩ := h.ne
  have hk : ∀ {q : Nat} {o : Obj}, w.heap[q]? = some o → q ≠ w0.heap.size + 5 → (w.setCell ⟨w0.heap.size + 5, 0, none⟩ (.int .u64 (n : Int))).heap[q]? = some o := fun e hq => (Below.heap_setCell _ _ _ _ (by exact hq)).trans e
  exact ⟨hk h.ma (by omega), hk h.res (by omega), ⟨hk h.rd.row (by omega), h.rd.len⟩, hk h.box (by omega), hk h.fr (by omega), h.to_.set, hk h.mem (by omega), hk h.tab (by omega), hk h.key (by omega), hk h.fn (by omega), h.trA.set h.to_, h.tr.set h.to_, h.sh, h.few, h.sml, below_setV h.bel (by omega), h.ne⟩
theorem PaI.setMem (h : PaI w0 gt gk gf A T X U w) (n : Nat) (hn : n < 256) : PaI w0 gt gk gf A T (X.1, { X.2 with mem := n }) U (w.setCell ⟨w0.heap.size + 6, 0, none⟩ (.int .u8 (n : Int))) := by
  obtain ⟨n1, n2, n3, n4, n5, n6⟩ := h.ne
  have hk : ∀ {q : Nat} {o : Obj}, w.heap[q]? = some o → q ≠ w0.heap.size + 6 → (w.setCell ⟨w0.heap.size + 6, 0, none⟩ (.int .u8 (n : Int))).heap[q]? = some o := fun e hq => (Below.heap_setCell _ _ _ _ (by exact hq)).trans e
  exact ⟨hk h.ma (by omega), hk h.res (by omega), ⟨hk h.rd.row (by omega), h.rd.len⟩, hk h.box (by omega), hk h.fr (by omega), hk h.to_ (by omega), h.mem.set, hk h.tab (by omega), hk h.key (by omega), hk h.fn (by omega), h.trA.set h.mem, h.tr.set h.mem, h.sh, h.few, hn, below_setV h.bel (by omega), h.ne⟩
theorem PaI.setTab (h : PaI w0 gt gk gf A T X U w) (t : TabV) : PaI w0 gt gk gf A T (X.1, { X.2 with tab := t }) U (rowSt w gt 0 (tabCells t)) := by
  obtain ⟨n1, n2, n3, n4, n5, n6⟩ := h.ne
  have hk : ∀ {q : Nat} {o : Obj}, w.heap[q]? = some o → q ≠ gt → (rowSt w gt 0 (tabCells t)).heap[q]? = some o := fun e hq => (rowSt_other hq _ _ _).trans e
  exact ⟨hk h.ma (by omega), hk h.res (by omega), ⟨hk h.rd.row (by omega), h.rd.len⟩, hk h.box (by omega), hk h.fr (by omega), hk h.to_ (by omega), hk h.mem (by omega), rowSt_row (tabCells t) [] (tabCells X.2.tab) w h.tab rfl, hk h.key (by omega), hk h.fn (by omega), TreeAt.row h.tab (by decide) _ _ h.trA, TreeAt.row h.tab (by decide) _ _ h.tr, h.sh, h.few, h.sml, rowSt_below (by omega) _ _ _ h.bel, h.ne⟩
theorem PaI.setKey (h : PaI w0 gt gk gf A T X U w) (V : Tr) (hV : TreeAt w V) (S : Sh) (hs : V.sh = S) (hc : V.cnt ≤ T.cnt + 513) : PaI w0 gt gk gf A T (X.1, { X.2 with sh := S }) V (w.setCell ⟨gk, 0, none⟩ (.pointer V.ptr)) := by
  obtain ⟨n1, n2, n3, n4, n5, n6⟩ := h.ne
  have hk : ∀ {q : Nat} {o : Obj}, w.heap[q]? = some o → q ≠ gk → (w.setCell ⟨gk, 0, none⟩ (.pointer V.ptr)).heap[q]? = some o := fun e hq => (Below.heap_setCell _ _ _ _ (by exact hq)).trans e
  exact ⟨hk h.ma (by omega), hk h.res (by omega), ⟨hk h.rd.row (by omega), h.rd.len⟩, hk h.box (by omega), hk h.fr (by omega), hk h.to_ (by omega), hk h.mem (by omega), hk h.tab (by omega), h.key.set, hk h.fn (by omega), h.trA.set h.key, hV.set h.key, hs, hc, h.sml, below_setV h.bel (by omega), h.ne⟩
end
section
variable {w0 : World} {gt gk gf : Nat} {A : MacV} {T U : Tr} {X : RdV × PaV}
set_option maxHeartbeats 8000000 in
theorem pstep1_any (w : World) (h : PaI w0 gt gk gf A T X U w) :
    Calls Try.prog 93 #[.pointer (some ⟨w0.heap.size + 3, 0, none⟩), .pointer (some ⟨w0.heap.size + 4, 0, none⟩)] w fun e w' => e = .returned (.tuple #[]) ∧ PaI w0 gt gk gf A T (paStep 0 X) U w' := by
  have Hb := Lib.hid (takeSum_any X.1 (w0.heap.size + 2) w h.rd)
  rw [paStep_0]
  generalize X.1.sumP 8 = Q at *
  have f0 := h.get
  have H := Lib.hid h; clear h
  go_enter Try.func93, Try.ntmps93
  go_wp2_with ((with_reducible refine Hb.out.mono ?_); rintro e w2 ⟨rfl, h2⟩; have H2 := Lib.hid (H.out.only h2.1 (h2.2.but _)); clear h2 Hb f0; have p0 := H2.out.fr.cell; have q0 := H2.out.fr.frozen)
  refine bodyPost_end (results_none rfl _ _ _) rfl ?_
  exact ⟨rfl, H2.out.setFr _⟩
set_option maxHeartbeats 8000000 in
theorem pstep2_any (w : World) (h : PaI w0 gt gk gf A T X U w) :
    Calls Try.prog 95 #[.pointer (some ⟨w0.heap.size + 3, 0, none⟩), .pointer (some ⟨w0.heap.size + 5, 0, none⟩)] w fun e w' => e = .returned (.tuple #[]) ∧ PaI w0 gt gk gf A T (paStep 1 X) U w' := by
  have Hb := Lib.hid (takeSum_any X.1 (w0.heap.size + 2) w h.rd)
  rw [paStep_1]
  generalize X.1.sumP 8 = Q at *
  have f0 := h.get
  have H := Lib.hid h; clear h
  go_enter Try.func95, Try.ntmps95
  go_wp2_with ((with_reducible refine Hb.out.mono ?_); rintro e w2 ⟨rfl, h2⟩; have H2 := Lib.hid (H.out.only h2.1 (h2.2.but _)); clear h2 Hb f0; have p0 := H2.out.to_.cell; have q0 := H2.out.to_.frozen)
  refine bodyPost_end (results_none rfl _ _ _) rfl ?_
  exact ⟨rfl, H2.out.setTo _⟩
set_option maxHeartbeats 8000000 in
theorem pstep3_any (w : World) (h : PaI w0 gt gk gf A T X U w) :
    Calls Try.prog 96 #[.pointer (some ⟨w0.heap.size + 3, 0, none⟩), .pointer (some ⟨w0.heap.size + 6, 0, none⟩)] w fun e w' => e = .returned (.tuple #[]) ∧ PaI w0 gt gk gf A T (paStep 2 X) U w' := by
  have Hb := Lib.hid (byte_any X.1 (w0.heap.size + 2) w h.rd)
  rw [paStep_2]
  generalize X.1.byte = Q at *
  have f0 := h.get
  have H := Lib.hid h; clear h
  go_enter Try.func96, Try.ntmps96
  go_wp2_with ((with_reducible refine Hb.out.mono ?_); rintro e w2 ⟨rfl, h2⟩; have H2 := Lib.hid (H.out.only h2.1 (h2.2.but _)); clear h2 Hb f0; have p0 := H2.out.mem.cell; have q0 := H2.out.mem.frozen)
  refine bodyPost_end (results_none rfl _ _ _) rfl ?_
  exact ⟨rfl, H2.out.setMem _ Q.1.toNat_lt⟩
set_option maxRecDepth 100000 in
set_option maxHeartbeats 8000000 in
theorem pstep4_any (w : World) (h : PaI w0 gt gk gf A T X U w) :
    Calls Try.prog 97 #[.pointer (some ⟨w0.heap.size + 3, 0, none⟩), .pointer (some ⟨gt, 0, none⟩)] w fun e w' => e = .returned (.tuple #[]) ∧ PaI w0 gt gk gf A T (paStep 3 X) U w' := by
  have hb := takeClients_any X.1 X.2.tab (w0.heap.size + 2) w h.rd
  rw [paStep_3]
  generalize X.1.clients X.2.tab = Q at *
  obtain ⟨t, R2⟩ := Q
  simp only at hb ⊢
  rw [tab_eta X.2.tab, tab_eta t] at hb
  have Hb := Lib.hid hb; clear hb
  have f0 := h.get
  obtain ⟨⟨a0, a1, a2⟩, ⟨b0, b1, b2⟩, ⟨c0, c1, c2⟩, ⟨d0, d1, d2⟩⟩ := h.tab.cells
  have H := Lib.hid h; clear h
  go_enter Try.func97, Try.ntmps97
  go_wp2_with ((with_reducible refine Hb.out.mono ?_); rintro e w2 ⟨rfl, h2⟩; have H2 := Lib.hid (H.out.only h2.1 h2.2); clear h2 Hb f0 a0 a1 a2 b0 b1 b2 c0 c1 c2 d0 d1 d2; obtain ⟨⟨a0, a1, a2⟩, ⟨b0, b1, b2⟩, ⟨c0, c1, c2⟩, ⟨d0, d1, d2⟩⟩ := H2.out.tab.cells; have q0 := H2.out.tab.thawed 0; have q1 := H2.out.tab.thawed 1; have q2 := H2.out.tab.thawed 2; have q3 := H2.out.tab.thawed 3; have q4 := H2.out.tab.thawed 4; have q5 := H2.out.tab.thawed 5; have q6 := H2.out.tab.thawed 6; have q7 := H2.out.tab.thawed 7; have q8 := H2.out.tab.thawed 8; have q9 := H2.out.tab.thawed 9; have q10 := H2.out.tab.thawed 10; have q11 := H2.out.tab.thawed 11)
  refine bodyPost_end (results_none rfl _ _ _) rfl ?_
  change _ ∧ PaI _ _ _ _ _ _ _ _ (rowSt w2 gt 0 (tabCells t))
  exact ⟨rfl, H2.out.setTab t⟩
set_option maxHeartbeats 8000000 in
theorem pstep5_any (w : World) (hc : T.cnt ≤ 500000) (hU : U.sh.cnt ≤ T.cnt) (h : PaI w0 gt gk gf A T X U w) :
    Calls Try.prog 99 #[.pointer (some ⟨w0.heap.size + 3, 0, none⟩), .pointer (some ⟨gk, 0, none⟩)] w fun e w' => e = .returned (.tuple #[]) ∧ ∃ V, PaI w0 gt gk gf A T (paStep 4 X) V w' := by
  have hb := takeKeysD_any X.1 U (by have := h.few; omega) (w0.heap.size + 2) w h.rd h.tr
  rw [paStep_4]
  rw [h.sh] at hb
  generalize X.1.keysD X.2.sh = Q at *
  obtain ⟨S, R2⟩ := Q
  simp only at hb ⊢
  obtain ⟨P, hP⟩ : ∃ P, U.ptr = P := ⟨_, rfl⟩
  have f0 := h.get
  have f1 := h.key.cell
  rw [hP] at hb f1
  have Hb := Lib.hid hb; clear hb hP
  have H := Lib.hid h; clear h
  go_enter Try.func99, Try.ntmps99
  go_wp2_with ((with_reducible refine Hb.out.mono ?_); rintro e w2 ⟨V, rfl, hV, hs, hn, h2⟩; have H2 := Lib.hid (And.intro (H.out.only h2.1 h2.2) (And.intro hV (And.intro hs hn))); clear h2 hV hs hn Hb f0 f1; have p0 := H2.out.1.key.cell; have q0 := H2.out.1.key.frozen)
  refine bodyPost_end (results_none rfl _ _ _) rfl ?_
  exact ⟨rfl, V, H2.out.1.setKey V H2.out.2.1 S H2.out.2.2.1 (by have h1 := H2.out.2.2.2; rw [← sh_cnt] at hU; omega)⟩
end
end Go.Proofs.Ytkngadbeflepoaa
