/- Readers: machine.Of: its four steps. Condition: the reader lies there. -/
import Derived.Test.YtkngadbeflepoaaMMachineBack33
import Derived.Test.YtkngadbeflepoaaMMachineBack18
import Derived.Test.YtkngadbeflepoaaMMachineBack32
import Derived.Laws.EntriesVeiled
import Derived.Test.YtkngadbeflepoaaMMachineBack5
namespace Go.Proofs.Ytkngadbeflepoaa
open Go.RowKit

theorem of_any1 (s : List UInt8) (_ : s.length ≤ maxLen) (w : World) :
    Calls Try.prog 75 #[.string ⟨s.toArray⟩] w fun e w' => e = .returned (.pointer (some ⟨w.heap.size, 0, none⟩)) ∧ w' = w.alloc (.cells (rdCells ⟨0, s⟩).toArray 174) := by
  go_enter Try.func75, Try.ntmps75
  go_wp2_with fail
  go_ret
  exact ⟨rfl, rfl⟩
/-- But for some blocks, below n nothing is another. -/
structure Off (L : List Nat) (n : Nat) (w w' : World) : Prop where
  os : w'.os = w.os
  tape : w'.tape = w.tape
  output : w'.output = w.output
  size : w.heap.size ≤ w'.heap.size
  block : ∀ k, k < n → k ∉ L → w'.heap[k]? = w.heap[k]?
theorem Off.refl (L : List Nat) (n : Nat) (w : World) : Off L n w w := ⟨rfl, rfl, rfl, Nat.le_refl _, fun _ _ _ => rfl⟩
theorem Off.trans {L : List Nat} {n : Nat} {a b c : World} (h : Off L n a b) (k : Off L n b c) : Off L n a c :=
  ⟨k.os.trans h.os, k.tape.trans h.tape, k.output.trans h.output, Nat.le_trans h.size k.size, fun i hi hg => (k.block i hi hg).trans (h.block i hi hg)⟩
theorem Off.mono {L : List Nat} {n m : Nat} {a b : World} (h : Off L n a b) (hm : m ≤ n) : Off L m a b := ⟨h.os, h.tape, h.output, h.size, fun k hk hg => h.block k (by omega) hg⟩
theorem But.off {g n : Nat} {a b : World} (h : But g n a b) {L : List Nat} (hg : g ∈ L) : Off L n a b := ⟨h.os, h.tape, h.output, h.size, fun k hk hl => h.block k hk (fun e => hl (e ▸ hg))⟩
theorem Only.off {g : Nat} {a b : World} (h : Only g a b) (n : Nat) {L : List Nat} (hg : g ∈ L) : Off L n a b := (h.but n).off hg
theorem off_of {n : Nat} {a b : World} (h : Below n a b) (L : List Nat) : Off L n a b := ⟨h.os, h.tape, h.output, h.size, fun k hk _ => h.block k hk⟩
theorem Off.below {L : List Nat} {n : Nat} {a b : World} (h : Off L n a b) (hg : ∀ g ∈ L, n ≤ g) : Below n a b := ⟨h.os, h.tape, h.output, h.size, fun k hk => h.block k hk (fun hl => by have := hg k hl; omega)⟩
def PartAt (w : World) (g : Nat) (M : MacV) (P : Option Addr) : Prop := w.heap[g]? = some (.cells (macCells M P).toArray 67 (0, 0))
theorem treeAt_but {w w' : World} {g : Nat} {R : RdV} (hr : RdAt w g R) (ho : But g w.heap.size w w') : ∀ {T : Tr}, TreeAt w T → TreeAt w' T
  | .nil, _ => trivial
  | .node b _ _ _ _ _, ⟨h1, h2, h3⟩ => ⟨(ho.block b (Array.getElem?_eq_some_iff.1 h1).1 (by
      rintro rfl
      unfold NodeAt at h1
      have := hr.row
      rw [h1] at this
      simp at this)).trans h1, treeAt_but hr ho h2, treeAt_but hr ho h3⟩
/-- A machine's parts being read. -/
structure PtI (gR g4 g5 : Nat) (R : RdV) (M : MacV) (T : Tr) (w : World) : Prop where
  rd : RdAt w gR R
  box : w.heap[g4]? = some (.cells #[.pointer (some ⟨gR, 0, none⟩)] 141 (0, 0))
  p : PartAt w g5 M T.ptr
  tr : TreeAt w T
  sh : T.sh = M.sh
  ne : gR ≠ g4 ∧ gR ≠ g5 ∧ g4 ≠ g5
theorem PtI.lt {gR g4 g5 : Nat} {R : RdV} {M : MacV} {T : Tr} {w : World} (h : PtI gR g4 g5 R M T w) : g4 < w.heap.size ∧ g5 < w.heap.size := ⟨(Array.getElem?_eq_some_iff.1 h.box).1, (Array.getElem?_eq_some_iff.1 h.p).1⟩
theorem PtI.get {gR g4 g5 : Nat} {R : RdV} {M : MacV} {T : Tr} {w : World} (h : PtI gR g4 g5 R M T w) : w.cell? ⟨g4, 0, none⟩ = some (.pointer (some ⟨gR, 0, none⟩)) := cell_of_row _ _ _ _ _ _ h.box
theorem PtI.only {gR g4 g5 : Nat} {R R' : RdV} {M : MacV} {T : Tr} {w w' : World} (h : PtI gR g4 g5 R M T w) (hr : RdAt w' gR R') (ho : But gR w.heap.size w w') : PtI gR g4 g5 R' M T w' := by
  obtain ⟨n1, n2, n3⟩ := h.ne
  refine ⟨hr, (ho.block _ h.lt.1 (Ne.symm n1)).trans h.box, (ho.block _ h.lt.2 (Ne.symm n2)).trans h.p, ?_, h.sh, h.ne⟩
  exact treeAt_but h.rd ho h.tr
theorem PtI.all {gR g4 g5 : Nat} {R : RdV} {M : MacV} {T : Tr} {w : World} (h : PtI gR g4 g5 R M T w) (n : Nat) : PtI gR g4 g5 R { M with all := n } T (w.setCell ⟨g5, 0, none⟩ (.int .u8 (n : Int))) := by
  obtain ⟨n1, n2, n3⟩ := h.ne
  have ho : ∀ q, q ≠ g5 → (w.setCell ⟨g5, 0, none⟩ (.int .u8 (n : Int))).heap[q]? = w.heap[q]? := fun q hq => Below.heap_setCell _ _ _ _ (by exact hq)
  refine ⟨⟨(ho _ n2).trans h.rd.row, h.rd.len⟩, (ho _ n3).trans h.box, ?_, TreeAt.setC h.p (by simp [macCells, tabCells, lastCells]) h.tr, h.sh, h.ne⟩
  have h1 := h.p
  unfold PartAt at *
  rw [heap_setCell_same _ _ _ _ _ _ h1]
  rfl
theorem PtI.mem {gR g4 g5 : Nat} {R : RdV} {M : MacV} {T : Tr} {w : World} (h : PtI gR g4 g5 R M T w) (n : Nat) : PtI gR g4 g5 R { M with mem := n } T (w.setCell ⟨g5, 1, none⟩ (.int .u8 (n : Int))) := by
  obtain ⟨n1, n2, n3⟩ := h.ne
  have ho : ∀ q, q ≠ g5 → (w.setCell ⟨g5, 1, none⟩ (.int .u8 (n : Int))).heap[q]? = w.heap[q]? := fun q hq => Below.heap_setCell _ _ _ _ (by exact hq)
  refine ⟨⟨(ho _ n2).trans h.rd.row, h.rd.len⟩, (ho _ n3).trans h.box, ?_, TreeAt.setC h.p (by simp [macCells, tabCells, lastCells]) h.tr, h.sh, h.ne⟩
  have h1 := h.p
  unfold PartAt at *
  rw [heap_setCell_same _ _ _ _ _ _ h1]
  rfl
theorem PartAt.cells {w : World} {g : Nat} {M : MacV} {P : Option Addr} (h : PartAt w g M P) : w.cell? ⟨g, 0, none⟩ = some (.int .u8 (M.all : Int)) ∧ w.cell? ⟨g, 1, none⟩ = some (.int .u8 (M.mem : Int)) ∧ w.cell? ⟨g, 14, none⟩ = some (.pointer P) :=
  ⟨cell_of_row _ _ _ _ _ _ h, cell_of_row _ _ _ _ _ _ h, cell_of_row _ _ _ _ _ _ h⟩
theorem PartAt.thawed {w : World} {g : Nat} {M : MacV} {P : Option Addr} (h : PartAt w g M P) (j : Nat) : w.frozen? ⟨g, j, none⟩ = false := by
  unfold PartAt at h
  simp [World.frozen?, h]
set_option maxHeartbeats 8000000 in
theorem step1_any (gR g4 g5 : Nat) (R : RdV) (M : MacV) (T : Tr) (w : World) (h : PtI gR g4 g5 R M T w) :
    Calls Try.prog 76 #[.pointer (some ⟨g4, 0, none⟩), .pointer (some ⟨g5, 0, none⟩)] w fun e w' => e = .returned (.tuple #[]) ∧ PtI gR g4 g5 R.byte.2 { M with all := R.byte.1.toNat } T w' ∧ Off [gR, g5] w.heap.size w w' := by
  have Hb := Lib.hid (byte_any R gR w h.rd)
  have f0 := h.get
  have H := Lib.hid h; clear h
  go_enter Try.func76, Try.ntmps76
  go_wp2_with ((with_reducible refine Hb.out.mono ?_); rintro e w2 ⟨rfl, h2⟩; have H2 := Lib.hid (H.out.only h2.1 (h2.2.but _)); have HO := Lib.hid h2.2; clear h2 Hb f0; obtain ⟨p0, p1, p14⟩ := H2.out.p.cells; have q0 := H2.out.p.thawed 0)
  refine bodyPost_end (results_none rfl _ _ _) rfl ?_
  exact ⟨rfl, H2.out.all _, (HO.out.off _ (by simp)).trans ((Only.set g5 0 w2 _).off _ (by simp))⟩
set_option maxHeartbeats 8000000 in
theorem step2_any (gR g4 g5 : Nat) (R : RdV) (M : MacV) (T : Tr) (w : World) (h : PtI gR g4 g5 R M T w) :
    Calls Try.prog 78 #[.pointer (some ⟨g4, 0, none⟩), .pointer (some ⟨g5, 0, none⟩)] w fun e w' => e = .returned (.tuple #[]) ∧ PtI gR g4 g5 R.byte.2 { M with mem := R.byte.1.toNat } T w' ∧ Off [gR, g5] w.heap.size w w' := by
  have Hb := Lib.hid (byte_any R gR w h.rd)
  have f0 := h.get
  have H := Lib.hid h; clear h
  go_enter Try.func78, Try.ntmps78
  go_wp2_with ((with_reducible refine Hb.out.mono ?_); rintro e w2 ⟨rfl, h2⟩; have H2 := Lib.hid (H.out.only h2.1 (h2.2.but _)); have HO := Lib.hid h2.2; clear h2 Hb f0; obtain ⟨p0, p1, p14⟩ := H2.out.p.cells; have q0 := H2.out.p.thawed 1)
  refine bodyPost_end (results_none rfl _ _ _) rfl ?_
  exact ⟨rfl, H2.out.mem _, (HO.out.off _ (by simp)).trans ((Only.set g5 1 w2 _).off _ (by simp))⟩
theorem PartAt.tabs {w : World} {g : Nat} {M : MacV} {P : Option Addr} (h : PartAt w g M P) : w.cell? ⟨g, 2, none⟩ = some (.int .u32 (M.tab.a.seq.toNat : Int)) ∧ w.cell? ⟨g, 3, none⟩ = some (.int .u8 (M.tab.a.code : Int)) ∧ w.cell? ⟨g, 4, none⟩ = some (.string M.tab.a.text) ∧ w.cell? ⟨g, 5, none⟩ = some (.int .u32 (M.tab.b.seq.toNat : Int)) ∧ w.cell? ⟨g, 6, none⟩ = some (.int .u8 (M.tab.b.code : Int)) ∧ w.cell? ⟨g, 7, none⟩ = some (.string M.tab.b.text) ∧ w.cell? ⟨g, 8, none⟩ = some (.int .u32 (M.tab.c.seq.toNat : Int)) ∧ w.cell? ⟨g, 9, none⟩ = some (.int .u8 (M.tab.c.code : Int)) ∧ w.cell? ⟨g, 10, none⟩ = some (.string M.tab.c.text) ∧ w.cell? ⟨g, 11, none⟩ = some (.int .u32 (M.tab.d.seq.toNat : Int)) ∧ w.cell? ⟨g, 12, none⟩ = some (.int .u8 (M.tab.d.code : Int)) ∧ w.cell? ⟨g, 13, none⟩ = some (.string M.tab.d.text) :=
  ⟨cell_of_row _ _ _ _ _ _ h, cell_of_row _ _ _ _ _ _ h, cell_of_row _ _ _ _ _ _ h, cell_of_row _ _ _ _ _ _ h, cell_of_row _ _ _ _ _ _ h, cell_of_row _ _ _ _ _ _ h, cell_of_row _ _ _ _ _ _ h, cell_of_row _ _ _ _ _ _ h, cell_of_row _ _ _ _ _ _ h, cell_of_row _ _ _ _ _ _ h, cell_of_row _ _ _ _ _ _ h, cell_of_row _ _ _ _ _ _ h⟩
theorem rowSt_mid2 {g : Nat} {t : TypeId} (vs pre old post : List Value) (y : World) (h : y.heap[g]? = some (.cells (pre ++ (old ++ post)).toArray t (0, 0))) (hl : old.length = vs.length) : (rowSt y g pre.length vs).heap[g]? = some (.cells (pre ++ (vs ++ post)).toArray t (0, 0)) := by
  induction vs generalizing pre old y with
  | nil =>
    have : old = [] := List.length_eq_zero_iff.1 hl
    subst this
    exact h
  | cons v r ih =>
    match old, hl with
    | o :: os, hl =>
      have h1 : (y.setCell ⟨g, pre.length, none⟩ v).heap[g]? = some (.cells ((pre ++ [v]) ++ (os ++ post)).toArray t (0, 0)) := by
        rw [heap_setCell_same _ _ _ _ _ _ h]
        simp
      have h2 := ih (pre ++ [v]) os _ h1 (by simpa using hl)
      rw [List.length_append] at h2
      simp only [List.append_assoc, List.singleton_append] at h2
      exact h2
theorem PtI.tab {gR g4 g5 : Nat} {R : RdV} {M : MacV} {T : Tr} {w : World} (h : PtI gR g4 g5 R M T w) (t : TabV) : PtI gR g4 g5 R { M with tab := t } T (rowSt w g5 2 (tabCells t)) := by
  obtain ⟨n1, n2, n3⟩ := h.ne
  exact ⟨⟨(rowSt_other n2 _ _ _).trans h.rd.row, h.rd.len⟩, (rowSt_other n3 _ _ _).trans h.box, rowSt_mid2 (tabCells t) [.int .u8 (M.all : Int), .int .u8 (M.mem : Int)] (tabCells M.tab) [.pointer T.ptr] w h.p rfl, TreeAt.row h.p (by decide) _ _ h.tr, h.sh, h.ne⟩
set_option maxRecDepth 100000 in
set_option maxHeartbeats 8000000 in
theorem step3_any (gR g4 g5 : Nat) (R : RdV) (M : MacV) (T : Tr) (w : World) (h : PtI gR g4 g5 R M T w) :
    Calls Try.prog 79 #[.pointer (some ⟨g4, 0, none⟩), .pointer (some ⟨g5, 0, none⟩)] w fun e w' => e = .returned (.tuple #[]) ∧ PtI gR g4 g5 R.tab.2 { M with tab := R.tab.1 } T w' ∧ Off [gR, g5] w.heap.size w w' := by
  have hb := take12_any R gR w h.rd
  rw [tab_eta] at hb
  have Hb := Lib.hid hb; clear hb
  have f0 := h.get
  have H := Lib.hid h; clear h
  generalize R.tab = X at *
  obtain ⟨t, R2⟩ := X
  simp only at Hb ⊢
  go_enter Try.func79, Try.ntmps79
  go_wp2_with ((with_reducible refine Hb.out.mono ?_); rintro e w2 ⟨rfl, h2⟩; have H2 := Lib.hid (H.out.only h2.1 h2.2); have HO := Lib.hid h2.2; clear h2 Hb f0; obtain ⟨p2, p3, p4, p5, p6, p7, p8, p9, p10, p11, p12, p13⟩ := H2.out.p.tabs; have q2 := H2.out.p.thawed 2; have q3 := H2.out.p.thawed 3; have q4 := H2.out.p.thawed 4; have q5 := H2.out.p.thawed 5; have q6 := H2.out.p.thawed 6; have q7 := H2.out.p.thawed 7; have q8 := H2.out.p.thawed 8; have q9 := H2.out.p.thawed 9; have q10 := H2.out.p.thawed 10; have q11 := H2.out.p.thawed 11; have q12 := H2.out.p.thawed 12; have q13 := H2.out.p.thawed 13)
  refine bodyPost_end (results_none rfl _ _ _) rfl ?_
  change _ ∧ PtI _ _ _ _ _ _ (rowSt w2 g5 2 (tabCells t)) ∧ Off _ _ _ (rowSt w2 g5 2 (tabCells t))
  exact ⟨rfl, H2.out.tab t, (HO.out.off (by simp)).trans ⟨(rowSt_below (Nat.zero_le _) (tabCells t) 2 _ (Below.refl 0 w2)).os, (rowSt_below (Nat.zero_le _) (tabCells t) 2 _ (Below.refl 0 w2)).tape, (rowSt_below (Nat.zero_le _) (tabCells t) 2 _ (Below.refl 0 w2)).output, (rowSt_below (Nat.zero_le _) (tabCells t) 2 _ (Below.refl 0 w2)).size, fun k _ hk => rowSt_other (fun e => hk (by simp [e])) _ _ _⟩⟩
set_option maxHeartbeats 4000000 in
theorem kvof_any (P : Option Addr) (w : World) : Calls Try.prog 24 #[.pointer P] w fun e w' => e = .returned (.agg #[.pointer P]) ∧ Below w.heap.size w w' := by
  have hb := (Below.refl w.heap.size w).alloc (Nat.le_refl _) (.cells #[.pointer P] 45)
  have h0 := heap_alloc_new w (.cells #[.pointer P] 45)
  go_enter Try.func24, Try.ntmps24
  go_wp2_with fail
  generalize w.alloc (.cells #[.pointer P] 45) = w1 at *
  have c0 : w1.cell? ⟨w.heap.size, 0, none⟩ = some (.pointer P) := cell_of_row _ _ _ _ _ _ h0
  refine bodyPost_ret (v := .agg #[.pointer P]) (by simp [results, Try.results24, go_sem, c0] <;> rfl) rfl ?_
  exact ⟨rfl, hb⟩
theorem PtI.keys {gR g4 g5 : Nat} {R : RdV} {M : MacV} {T : Tr} {w : World} (h : PtI gR g4 g5 R M T w) (X : Tr) (S : Sh) (hX : TreeAt w X) (hs : X.sh = S) : PtI gR g4 g5 R { M with sh := S } X (w.setCell ⟨g5, 14, none⟩ (.pointer X.ptr)) := by
  obtain ⟨n1, n2, n3⟩ := h.ne
  have ho : ∀ q, q ≠ g5 → (w.setCell ⟨g5, 14, none⟩ (.pointer X.ptr)).heap[q]? = w.heap[q]? := fun q hq => Below.heap_setCell _ _ _ _ (by exact hq)
  refine ⟨⟨(ho _ n2).trans h.rd.row, h.rd.len⟩, (ho _ n3).trans h.box, ?_, TreeAt.setC h.p (by simp [macCells, tabCells, lastCells]) hX, hs, h.ne⟩
  have h1 := h.p
  unfold PartAt at *
  rw [heap_setCell_same _ _ _ _ _ _ h1]
  rfl
set_option maxHeartbeats 8000000 in
theorem step4_any (gR g4 g5 : Nat) (R : RdV) (M : MacV) (T : Tr) (w : World) (h : PtI gR g4 g5 R M T w) :
    Calls Try.prog 81 #[.pointer (some ⟨g4, 0, none⟩), .pointer (some ⟨g5, 0, none⟩)] w fun e w' => ∃ X, e = .returned (.tuple #[]) ∧ PtI gR g4 g5 R.keys.2 { M with sh := R.keys.1 } X w' ∧ Off [gR, g5] w.heap.size w w' := by
  have Hb := Lib.hid (takeKeys_any R gR w h.rd)
  have Hk := Lib.hid (fun (P : Option Addr) (y : World) => kvof_any P y)
  have f0 := h.get
  have H := Lib.hid h; clear h
  go_enter Try.func81, Try.ntmps81
  go_wp2_with (first
    | ((with_reducible refine Hb.out.mono ?_); rintro e w2 ⟨X, rfl, hX, hs, hr, ho⟩; have H2 := Lib.hid (H.out.only hr ho); have HO := Lib.hid ho; have HX := Lib.hid (And.intro hX hs); clear hX hs hr ho Hb f0)
    | ((with_reducible refine (Hk.out _ _).mono ?_); rintro e w3 ⟨rfl, hb3⟩; have H3 := Lib.hid (H2.out.only (H2.out.rd.below hb3) (but_of hb3 gR)); have HX3 := Lib.hid (And.intro (HX.out.1.below hb3) HX.out.2); have HO3 := Lib.hid ((HO.out.off (L := [gR, g5]) (by simp)).trans ((off_of hb3 [gR, g5]).mono HO.out.size)); clear hb3; have p14 := H3.out.p.cells.2.2; have q14 := H3.out.p.thawed 14))
  refine bodyPost_end (results_none rfl _ _ _) rfl ?_
  exact ⟨X, rfl, H3.out.keys X _ HX3.out.1 HX3.out.2, HO3.out.trans ((Only.set g5 14 w3 _).off _ (by simp))⟩
end Go.Proofs.Ytkngadbeflepoaa
/- A law on regions that draw their order where two operations that turn the world may be up at once: the plan forks. Over RegK. No condition. -/
namespace Go.Proofs.Ytkngadbeflepoaa.RegJ
open Go RegK

/-- A plan: operations by their numbers. -/
inductive Plan where
  | nil : Plan
  | step (k e : Nat) (r : Plan) : Plan
  | fork (k : Nat) (r : Plan) (j : Nat) (s : Plan) : Plan
/-- A plan with its operations. -/
inductive PlanO where
  | nil : PlanO
  | bad : PlanO
  | step (o : Oper) (e : Nat) (r : PlanO) : PlanO
  | fork (o : Oper) (r : PlanO) (u : Oper) (s : PlanO) : PlanO
def Plan.len : Plan → Nat
  | .nil => 0
  | .step _ _ r => r.len + 1
  | .fork _ r _ _ => r.len + 1
def pickJ (l : List Oper) : Plan → PlanO
  | .nil => .nil
  | .step k e r => match l[k]? with | some o => .step o e (pickJ l r) | none => .bad
  | .fork k r j s => match l[k]?, l[j]? with | some o, some u => .fork o (pickJ l r) u (pickJ l s) | _, _ => .bad
section
variable {F : Fence} {n : Nat} {P : Program} {ops : Array Oper} {Q : Exit → Act → World → Prop} {md : Region.Mode}
/-- The walk: 0 reads only, 1 turns the world within R; at a fork both ways. -/
def canJ (F : Fence) (n : Nat) (P : Program) (ops : Array Oper) (Q : Exit → Act → World → Prop) : PlanO → (World → Prop) → Act → World → Prop
  | .nil, _, a, w => Q .normal a w
  | .bad, _, _, _ => False
  | .step o 0 r, R, a, w =>
    if Region.wanted o (yielded ops a.tmps) then ∃ v, (∀ x, R x → (execOp a.eval o).run P x = .ok (.value v) x) ∧ canJ F n P ops Q r R (a.put o.dst v) w
    else canJ F n P ops Q r R (a.put o.dst undef) w
  | .step o (_ + 1) r, R, a, w =>
    if Region.wanted o (yielded ops a.tmps) then o.wpIn F n P a w (fun a' w' => ∃ R' : World → Prop, (∀ x, R' x → R x) ∧ R' w' ∧ canJ F n P ops Q r R' a' w') Q
    else (∀ f, o.about P w a.eval = some f → F.fn f) ∧ canJ F n P ops Q r R (a.put o.dst undef) w
  | .fork o r u s, R, a, w =>
    (if Region.wanted o (yielded ops a.tmps) then o.wpIn F n P a w (fun a' w' => ∃ R' : World → Prop, (∀ x, R' x → R x) ∧ R' w' ∧ canJ F n P ops Q r R' a' w') Q
      else (∀ f, o.about P w a.eval = some f → F.fn f) ∧ canJ F n P ops Q r R (a.put o.dst undef) w) ∧
    (if Region.wanted u (yielded ops a.tmps) then u.wpIn F n P a w (fun a' w' => ∃ R' : World → Prop, (∀ x, R' x → R x) ∧ R' w' ∧ canJ F n P ops Q s R' a' w') Q
      else (∀ f, u.about P w a.eval = some f → F.fn f) ∧ canJ F n P ops Q s R (a.put u.dst undef) w)
def canJB (md : Region.Mode) (ops : Array Oper) : Plan → Array Bool → Bool
  | .nil, listed => (Region.ready md ops listed).isEmpty
  | .step k 0 r, listed => decide (k < ops.size) && (Region.ready md ops listed).contains k && Region.free md ops listed k && (match ops[k]? with | some o => noCall o | none => false) && canJB md ops r (listed.setIfInBounds k true)
  | .step k (_ + 1) r, listed => decide (k < ops.size) && Region.ready md ops listed == [k] && canJB md ops r (listed.setIfInBounds k true)
  | .fork k r j s, listed => decide (k < ops.size) && decide (j < ops.size) && Region.ready md ops listed == [k, j] && r.len == s.len && canJB md ops r (listed.setIfInBounds k true) && canJB md ops s (listed.setIfInBounds j true)

theorem any_canJ (hro : ∀ o ∈ ops, noDefer o = true) (hs : Region.noSelect ops = true) (hQ : ∀ c a d v w, Q (.panic c) (Act.put a d v) w → Q (.panic c) a w) : ∀ (r : Plan) (listed : Array Bool) (R : World → Prop) (a : Act) (w : World),
    listed.size = ops.size → Closed md ops listed → canJB md ops r listed = true → R w → canJ F n P ops Q (pickJ ops.toList r) R a w → anyR (fun _ => false) F n P md ops Q r.len listed R a w
  | .nil, _, _, _, _, _, _, hB, _, h => ⟨by simpa [canJB] using hB, h⟩
  | .step k 0 r, listed, R, a, w, hsz, hcl, hB, hR, h => by
    simp only [canJB, Bool.and_eq_true, decide_eq_true_eq] at hB
    obtain ⟨⟨⟨⟨hk, hr⟩, hf⟩, hc⟩, hB'⟩ := hB
    have h0 : ops[k]? = some ops[k] := Array.getElem?_eq_getElem hk
    have h0' : ops.toList[k]? = some ops[k] := by simp [hk]
    simp only [h0] at hc
    have hsz' : (listed.setIfInBounds k true).size = ops.size := by simpa using hsz
    have hcl' := hcl.set (i := k) (by simpa using hr)
    simp only [pickJ, h0', canJ] at h
    have hbs : ∀ j, listed.getD j true = false → j ≠ k → (fun _ => false) j = true → k ∈ back md ops ops.size (onsOf md ops j) := fun j _ _ h3 => by cases h3
    by_cases hw : Region.wanted ops[k] (yielded ops a.tmps) = true
    · simp only [hw, if_true] at h
      obtain ⟨v, hv, hK⟩ := h
      exact first hro h0 hc (Region.noSelect_spec hs) (fun c a w => hQ c a _ _ w) r.len listed R a w (Region.free_spec h0 hf) hbs hcl (by simpa using hr) hR (.inl ⟨hw, hv⟩) (any_canJ hro hs hQ r _ R _ w hsz' hcl' hB' hR hK)
    · simp only [hw] at h
      exact first hro h0 hc (Region.noSelect_spec hs) (fun c a w => hQ c a _ _ w) r.len listed R a w (Region.free_spec h0 hf) hbs hcl (by simpa using hr) hR (.inr ⟨by simpa using hw, rfl⟩) (any_canJ hro hs hQ r _ R _ w hsz' hcl' hB' hR h)
  | .step k (m + 1) r, listed, R, a, w, hsz, hcl, hB, hR, h => by
    simp only [canJB, Bool.and_eq_true, beq_iff_eq, decide_eq_true_eq] at hB
    obtain ⟨⟨hk, hr⟩, hB'⟩ := hB
    have h0 : ops[k]? = some ops[k] := Array.getElem?_eq_getElem hk
    have h0' : ops.toList[k]? = some ops[k] := by simp [hk]
    have hsz' : (listed.setIfInBounds k true).size = ops.size := by simpa using hsz
    have hcl' := hcl.set (i := k) (by rw [hr]; simp)
    simp only [pickJ, h0', canJ] at h
    refine ⟨fun h => (by rw [hr] at h; cases h), fun j hj => ?_⟩
    rw [hr] at hj
    obtain rfl : j = k := by simpa using hj
    unfold wpOpIn
    simp only [h0]
    by_cases hw : Region.wanted ops[j] (yielded ops a.tmps) = true
    · simp only [hw, if_true] at h ⊢
      exact Oper.wpIn_mono (fun a' w' ⟨R', g0, g1, g2⟩ => ⟨R', g1, .inr g0, any_canJ hro hs hQ r _ R' a' w' hsz' hcl' hB' g1 g2⟩) h
    · simp only [hw] at h ⊢
      exact ⟨h.1, R, hR, .inr fun _ h => h, any_canJ hro hs hQ r _ R _ w hsz' hcl' hB' hR h.2⟩
  | .fork k r j s, listed, R, a, w, hsz, hcl, hB, hR, h => by
    simp only [canJB, Bool.and_eq_true, beq_iff_eq, decide_eq_true_eq] at hB
    obtain ⟨⟨⟨⟨⟨hk, hj⟩, hr⟩, hlen⟩, hB1⟩, hB2⟩ := hB
    have h0 : ops[k]? = some ops[k] := Array.getElem?_eq_getElem hk
    have h0' : ops.toList[k]? = some ops[k] := by simp [hk]
    have g0 : ops[j]? = some ops[j] := Array.getElem?_eq_getElem hj
    have g0' : ops.toList[j]? = some ops[j] := by simp [hj]
    have hcl1 := hcl.set (i := k) (by rw [hr]; simp)
    have hcl2 := hcl.set (i := j) (by rw [hr]; simp)
    simp only [pickJ, h0', g0', canJ] at h
    obtain ⟨h1, h2⟩ := h
    refine ⟨fun h => (by rw [hr] at h; cases h), fun i hi => ?_⟩
    rw [hr] at hi
    have hi' : i = k ∨ i = j := by simpa using hi
    rcases hi' with rfl | rfl
    · unfold wpOpIn
      simp only [h0]
      by_cases hw : Region.wanted ops[i] (yielded ops a.tmps) = true
      · simp only [hw, if_true] at h1 ⊢
        exact Oper.wpIn_mono (fun a' w' ⟨R', g0, g1, g2⟩ => ⟨R', g1, .inr g0, any_canJ hro hs hQ r _ R' a' w' (by simpa using hsz) hcl1 hB1 g1 g2⟩) h1
      · simp only [hw] at h1 ⊢
        exact ⟨h1.1, R, hR, .inr fun _ h => h, any_canJ hro hs hQ r _ R _ w (by simpa using hsz) hcl1 hB1 hR h1.2⟩
    · unfold wpOpIn
      simp only [g0]
      by_cases hw : Region.wanted ops[i] (yielded ops a.tmps) = true
      · simp only [hw, if_true] at h2 ⊢
        exact Oper.wpIn_mono (fun a' w' ⟨R', g0, g1, g2⟩ => ⟨R', g1, .inr g0, by
          have := any_canJ hro hs hQ s _ R' a' w' (by simpa using hsz) hcl2 hB2 g1 g2
          show anyR (fun _ => false) F n P md ops Q r.len _ _ _ _
          rw [hlen]
          exact this⟩) h2
      · simp only [hw] at h2 ⊢
        exact ⟨h2.1, R, hR, .inr fun _ h => h, by
          have := any_canJ hro hs hQ s _ R _ w (by simpa using hsz) hcl2 hB2 hR h2.2
          show anyR (fun _ => false) F n P md ops Q r.len _ _ _ _
          rw [hlen]
          exact this⟩
/-- The walk, behind a name that nothing opens. -/
structure Can (F : Fence) (n : Nat) (P : Program) (ops : Array Oper) (Q : Exit → Act → World → Prop) (l : PlanO) (R : World → Prop) (a : Act) (w : World) : Prop where
  out : canJ F n P ops Q l R a w
theorem wpIn_region_plan (R : World → Prop) (π : Plan) {id : Nat} {a : Act} {w : World} {l : List Oper} (hro : l.all noDefer = true) (hm : P.follows .mixedOrders = true)
    (hB : (Region.noSelect l.toArray && canJB .any l.toArray π (Array.replicate l.length false) && (π.len == l.length)) = true)
    (hQ : ∀ c a d v w, Q (.panic c) (Act.put a d v) w → Q (.panic c) a w) (hR : R { w with drawn := w.drawn + 1 })
    (h : Can F n P l.toArray Q (pickJ l π) R a { w with drawn := w.drawn + 1 }) : (Code.region id l.toArray true).wpIn F n P Q a w := by
  simp only [Bool.and_eq_true, beq_iff_eq] at hB
  obtain ⟨⟨h1, h2⟩, h4⟩ := hB
  refine wpIn_region_any hm (any_of (bar := fun _ => false) _ _ R _ _ ?_)
  have := any_canJ (F := F) (n := n) (P := P) (ops := l.toArray) (md := .any) (Q := Q) (fun o ho => List.all_eq_true.1 hro o (by simpa using ho)) h1 hQ π (Array.replicate l.length false) R a _ (by simp) (Closed.none _) h2 hR (by simpa using h.out)
  simpa [h4] using this
theorem reads {R : World → Prop} {a : Act} {w : World} {o : Oper} {r : PlanO}
    (h : ∀ K : Act → Prop, (∀ a, Can F n P ops Q r R a w → K a) → if Region.wanted o (yielded ops a.tmps) then ∃ v, (∀ x, R x → (execOp a.eval o).run P x = .ok (.value v) x) ∧ K (a.put o.dst v) else K (a.put o.dst undef)) :
    Can F n P ops Q (.step o 0 r) R a w := ⟨h _ (fun _ h => h.out)⟩
theorem turns (hfn : ∀ f, F.fn f) {R : World → Prop} {a : Act} {w : World} {o : Oper} {r : PlanO}
    (h : ∀ (K : Act → World → Prop) (K0 : Act → Prop), (∀ (R' : World → Prop) a w, (∀ x, R' x → R x) → R' w → Can F n P ops Q r R' a w → K a w) → (∀ a, Can F n P ops Q r R a w → K0 a) →
      if Region.wanted o (yielded ops a.tmps) then o.wpIn F n P a w K Q else K0 (a.put o.dst undef)) :
    Can F n P ops Q (.step o 1 r) R a w := by
  have h' := h (fun a' w' => ∃ R' : World → Prop, (∀ x, R' x → R x) ∧ R' w' ∧ canJ F n P ops Q r R' a' w') (fun a => canJ F n P ops Q r R a w) (fun R' _ _ h0 h1 h2 => ⟨R', h0, h1, h2.out⟩) (fun _ h => h.out)
  refine ⟨?_⟩
  simp only [canJ]
  split
  · rename_i hw; rw [if_pos hw] at h'; exact h'
  · rename_i hw; rw [if_neg hw] at h'; exact ⟨fun f _ => hfn f, h'⟩
theorem forks {R : World → Prop} {a : Act} {w : World} {o u : Oper} {r s : PlanO} (h1 : Can F n P ops Q (.step o 1 r) R a w) (h2 : Can F n P ops Q (.step u 1 s) R a w) : Can F n P ops Q (.fork o r u s) R a w := ⟨⟨h1.out, h2.out⟩⟩
theorem nil {R : World → Prop} {a : Act} {w : World} (h : Q .normal a w) : Can F n P ops Q .nil R a w := ⟨h⟩
end
end Go.Proofs.Ytkngadbeflepoaa.RegJ
