/- Readers: session.Take. Condition: the reader lies there. -/
import Derived.Deep.DeepCutAuto
import Derived.Test.YtkngadbeflepoaaZDeltaLeads25
import Derived.Test.YtkngadbeflepoaaZDeltaLeads16
import Derived.Test.YtkngadbeflepoaaZDeltaLeads9
import Derived.Test.YtkngadbeflepoaaZDeltaLeads11
import Derived.Laws.EntriesVeiled
import Derived.Test.YtkngadbeflepoaaZDeltaLeads5
namespace Go.Proofs.Ytkngadbeflepoaa
open Go.RowKit
/-- A client's last command, as it is read: without the word that it is bad. -/
def RdV.lastP (R : RdV) : LastV × RdV :=
  if (R.below 4294967296).1 = 0 then (lastNone, (R.below 4294967296).2)
  else (⟨BitVec.ofNat 32 (R.below 4294967296).1, (R.below 4294967296).2.byte.1.toNat, ⟨((R.below 4294967296).2.byte.2.str 64).1.toArray⟩⟩, ((R.below 4294967296).2.byte.2.str 64).2)
def RdV.last (R : RdV) : LastV × RdV := (R.lastP.1, if 3 < R.lastP.1.code then R.lastP.2.fail 4 else R.lastP.2)
def RdV.tabP (R : RdV) : Nat → TabV × RdV
  | 0 => (tabNone, R)
  | i + 1 => ((R.tabP i).1.put i (R.tabP i).2.last.1, (R.tabP i).2.last.2)
def RdV.tab (R : RdV) : TabV × RdV := (if (R.tabP 4).2.e = 0 then (R.tabP 4).1 else tabNone, (R.tabP 4).2)
/-- Below n nothing but one block is another. -/
structure But (g n : Nat) (w w' : World) : Prop where
  os : w'.os = w.os
  tape : w'.tape = w.tape
  output : w'.output = w.output
  size : w.heap.size ≤ w'.heap.size
  block : ∀ k, k < n → k ≠ g → w'.heap[k]? = w.heap[k]?
theorem But.refl (g n : Nat) (w : World) : But g n w w := ⟨rfl, rfl, rfl, Nat.le_refl _, fun _ _ _ => rfl⟩
theorem But.trans {g n : Nat} {a b c : World} (h : But g n a b) (k : But g n b c) : But g n a c :=
  ⟨k.os.trans h.os, k.tape.trans h.tape, k.output.trans h.output, Nat.le_trans h.size k.size, fun i hi hg => (k.block i hi hg).trans (h.block i hi hg)⟩
theorem But.mono {g n m : Nat} {a b : World} (h : But g n a b) (hm : m ≤ n) : But g m a b := ⟨h.os, h.tape, h.output, h.size, fun k hk hg => h.block k (by omega) hg⟩
theorem Only.but {g : Nat} {a b : World} (h : Only g a b) (n : Nat) : But g n a b := ⟨h.os, h.tape, h.output, by rw [h.size]; exact Nat.le_refl _, fun k _ hg => h.block k hg⟩
theorem but_of {n : Nat} {a b : World} (h : Below n a b) (g : Nat) : But g n a b := ⟨h.os, h.tape, h.output, h.size, fun k hk _ => h.block k hk⟩
theorem But.below {g n : Nat} {a b : World} (h : But g n a b) (hg : n ≤ g) : Below n a b := ⟨h.os, h.tape, h.output, h.size, fun k hk => h.block k hk (by omega)⟩
def LastRow (w : World) (g : Nat) (x : LastV) : Prop := w.heap[g]? = some (.cells (lastCells x).toArray 63 (0, 0))
theorem LastRow.cells {w : World} {g : Nat} {x : LastV} (h : LastRow w g x) : w.cell? ⟨g, 0, none⟩ = some (.int .u32 (x.seq.toNat : Int)) ∧ w.cell? ⟨g, 1, none⟩ = some (.int .u8 (x.code : Int)) ∧ w.cell? ⟨g, 2, none⟩ = some (.string x.text) :=
  ⟨cell_of_row _ _ _ _ _ _ h, cell_of_row _ _ _ _ _ _ h, cell_of_row _ _ _ _ _ _ h⟩
theorem LastRow.lt {w : World} {g : Nat} {x : LastV} (h : LastRow w g x) : g < w.heap.size := (Array.getElem?_eq_some_iff.1 h).1
theorem LastRow.thawed {w : World} {g : Nat} {x : LastV} (h : LastRow w g x) (j : Nat) : w.frozen? ⟨g, j, none⟩ = false := by
  unfold LastRow at h
  simp [World.frozen?, h]
theorem LastRow.only {w w' : World} {g q : Nat} {x : LastV} (h : LastRow w g x) (hq : g ≠ q) (ho : Only q w w') : LastRow w' g x := (ho.block g hq).trans h
theorem LastRow.code {w : World} {g : Nat} {x : LastV} (h : LastRow w g x) (c : Nat) : LastRow (w.setCell ⟨g, 1, none⟩ (.int .u8 (c : Int))) g ⟨x.seq, c, x.text⟩ := by
  unfold LastRow at *
  rw [heap_setCell_same _ _ _ _ _ _ h]
  rfl
theorem LastRow.text {w : World} {g : Nat} {x : LastV} (h : LastRow w g x) (t : ByteArray) : LastRow (w.setCell ⟨g, 2, none⟩ (.string t)) g ⟨x.seq, x.code, t⟩ := by
  unfold LastRow at *
  rw [heap_setCell_same _ _ _ _ _ _ h]
  rfl
theorem RdAt.set {w : World} {g q i : Nat} {R : RdV} {v : Value} (h : RdAt w g R) (hq : g ≠ q) : RdAt (w.setCell ⟨q, i, none⟩ v) g R := h.other hq (Only.set q i w v)
/-- Where Take has its variables. -/
structure TkI (w0 : World) (g : Nat) (R : RdV) (t : TabV) (w : World) : Prop where
  r : RdAt w g R
  z : TabAt w w0.heap.size tabNone
  t : TabAt w (w0.heap.size + 1) t
  but : But g w0.heap.size w0 w
  lt : g < w0.heap.size
theorem TkI.only {w0 w w' : World} {g : Nat} {R R' : RdV} {t : TabV} (h : TkI w0 g R t w) (hr : RdAt w' g R') (ho : Only g w w') : TkI w0 g R' t w' :=
  ⟨hr, (ho.block _ (by have := h.lt; omega)).trans h.z, (ho.block _ (by have := h.lt; omega)).trans h.t, h.but.trans (ho.but _), h.lt⟩
theorem TkI.below {w0 w w' : World} {g : Nat} {R : RdV} {t : TabV} (h : TkI w0 g R t w) (hb : Below w.heap.size w w') : TkI w0 g R t w' :=
  ⟨h.r.below hb, (hb.block _ (Array.getElem?_eq_some_iff.1 h.z).1).trans h.z, (hb.block _ (Array.getElem?_eq_some_iff.1 h.t).1).trans h.t, h.but.trans (but_of (hb.mono h.but.size) g), h.lt⟩
theorem TkI.set {w0 w : World} {g q i : Nat} {R : RdV} {t : TabV} {v : Value} (h : TkI w0 g R t w) (hq : w0.heap.size + 1 < q) : TkI w0 g R t (w.setCell ⟨q, i, none⟩ v) :=
  ⟨h.r.set (by have := h.lt; omega), h.z.other (by omega), h.t.other (by omega), h.but.trans (but_of (below_setV (b := q) (Below.refl w0.heap.size w) (by omega)) g), h.lt⟩
theorem TkI.put {w0 w : World} {g i : Nat} {R : RdV} {t : TabV} (h : TkI w0 g R t w) (hi : i < 4) (x : LastV) : TkI w0 g R (t.put i x) (lastSt w (w0.heap.size + 1) i x) :=
  ⟨((h.r.set (by have := h.lt; omega)).set (by have := h.lt; omega)).set (by have := h.lt; omega), ((h.z.other (by omega)).other (by omega)).other (by omega), lastSt_at h.t hi x,
    h.but.trans (but_of (below_setV (b := w0.heap.size + 1) (below_setV (b := w0.heap.size + 1) (below_setV (b := w0.heap.size + 1) (Below.refl w0.heap.size w) (by omega)) (by omega)) (by omega)) g), h.lt⟩
end Go.Proofs.Ytkngadbeflepoaa
namespace Go.Proofs.Ytkngadbeflepoaa
open Go.RowKit
theorem bl_cases : ∀ (a b : List UInt8), (Op.bytesLess a b || a == b) = !Op.bytesLess b a
  | [], [] => rfl
  | [], b :: m => by simp [Op.bytesLess]
  | a :: l, [] => by simp [Op.bytesLess]
  | a :: l, b :: m => by
    have h := bl_cases l m
    unfold Op.bytesLess
    by_cases h1 : a < b
    · have h2 : ¬ b < a := by rw [UInt8.lt_iff_toNat_lt] at *; omega
      have h3 : a ≠ b := by rintro rfl; exact h2 h1
      simp [h1, h2, Ne.symm h3]
    · by_cases h2 : b < a
      · have h3 : a ≠ b := by rintro rfl; exact h1 h2
        simp [h1, h2, h3]
      · have h3 : a = b := by rw [UInt8.lt_iff_toNat_lt] at *; exact UInt8.toNat_inj.1 (by omega)
        subst h3
        simpa [h1] using h
theorem sle_not (k last : ByteArray) : (Op.bytesLess k.toList last.toList || k.toList == last.toList) = !slt last k := bl_cases _ _
/-- A key and its value, as they are read, behind a key. -/
def RdV.pair (R : RdV) (last : ByteArray) : (ByteArray × ByteArray) × RdV :=
  ((⟨(R.str 16).1.toArray⟩, ⟨((R.str 16).2.str 64).1.toArray⟩), if slt last ⟨(R.str 16).1.toArray⟩ = true then ((R.str 16).2.str 64).2 else ((R.str 16).2.str 64).2.fail 4)
def RdV.keysP : Nat → Sh → ByteArray → RdV → Sh × RdV
  | 0, S, _, R => (S, R)
  | n + 1, S, last, R => if (R.pair last).2.e = 0 then RdV.keysP n (putSh (R.pair last).1.1 (R.pair last).1.2 S (S.look (R.pair last).1.1)) (R.pair last).1.1 (R.pair last).2 else (.nil, (R.pair last).2)
def RdV.keys (R : RdV) : Sh × RdV := RdV.keysP (R.below 257).1 .nil ByteArray.empty (R.below 257).2
theorem tsucc_u {n : Nat} (h : n < 1000000) : IntKind.u64.wrap ((n : Int) + 1) = ((n + 1 : Nat) : Int) := by rw [IntKind.wrap_u64]; omega
theorem TreeAt.only {w w' : World} {g : Nat} {R R' : RdV} (hr : RdAt w g R) (hr' : RdAt w' g R') (ho : Only g w w') : ∀ {T : Tr}, TreeAt w T → TreeAt w' T
  | .nil, _ => trivial
  | .node b _ _ _ _ _, ⟨h1, h2, h3⟩ => ⟨(ho.block b (by
      rintro rfl
      unfold NodeAt at h1
      have := hr.row
      rw [h1] at this
      simp at this)).trans h1, TreeAt.only hr hr' ho h2, TreeAt.only hr hr' ho h3⟩
end Go.Proofs.Ytkngadbeflepoaa
namespace Go.Proofs.Ytkngadbeflepoaa
open Go.RowKit
theorem of_any1 (s : List UInt8) (_ : s.length ≤ maxLen) (w : World) :
    Calls Try.prog 75 #[.string ⟨s.toArray⟩] w fun e w' => e = .returned (.pointer (some ⟨w.heap.size, 0, none⟩)) ∧ w' = w.alloc (.cells (rdCells ⟨0, s⟩).toArray 174) := by
  go_enter Try.func75, Try.ntmps75
  go_wp2_with fail
  go_ret
  exact ⟨rfl, rfl⟩
/-- But for some blocks, below n nothing is another. -/
structure Off (L : List Nat) (n : Nat) (w w' : World) : Prop where
  os : w'.os = w.os
  tape : w'.tape = w.tape
  output : w'.output = w.output
  size : w.heap.size ≤ w'.heap.size
  block : ∀ k, k < n → k ∉ L → w'.heap[k]? = w.heap[k]?
theorem Off.refl (L : List Nat) (n : Nat) (w : World) : Off L n w w := ⟨rfl, rfl, rfl, Nat.le_refl _, fun _ _ _ => rfl⟩
theorem Off.trans {L : List Nat} {n : Nat} {a b c : World} (h : Off L n a b) (k : Off L n b c) : Off L n a c :=
  ⟨k.os.trans h.os, k.tape.trans h.tape, k.output.trans h.output, Nat.le_trans h.size k.size, fun i hi hg => (k.block i hi hg).trans (h.block i hi hg)⟩
theorem Off.mono {L : List Nat} {n m : Nat} {a b : World} (h : Off L n a b) (hm : m ≤ n) : Off L m a b := ⟨h.os, h.tape, h.output, h.size, fun k hk hg => h.block k (by omega) hg⟩
theorem But.off {g n : Nat} {a b : World} (h : But g n a b) {L : List Nat} (hg : g ∈ L) : Off L n a b := ⟨h.os, h.tape, h.output, h.size, fun k hk hl => h.block k hk (fun e => hl (e ▸ hg))⟩
theorem Only.off {g : Nat} {a b : World} (h : Only g a b) (n : Nat) {L : List Nat} (hg : g ∈ L) : Off L n a b := (h.but n).off hg
theorem Off.below {L : List Nat} {n : Nat} {a b : World} (h : Off L n a b) (hg : ∀ g ∈ L, n ≤ g) : Below n a b := ⟨h.os, h.tape, h.output, h.size, fun k hk => h.block k hk (fun hl => by have := hg k hl; omega)⟩
def PartAt (w : World) (g : Nat) (M : MacV) (P : Option Addr) : Prop := w.heap[g]? = some (.cells (macCells M P).toArray 67 (0, 0))
theorem treeAt_but {w w' : World} {g : Nat} {R : RdV} (hr : RdAt w g R) (ho : But g w.heap.size w w') : ∀ {T : Tr}, TreeAt w T → TreeAt w' T
  | .nil, _ => trivial
  | .node b _ _ _ _ _, ⟨h1, h2, h3⟩ => ⟨(ho.block b (Array.getElem?_eq_some_iff.1 h1).1 (by
      rintro rfl
      unfold NodeAt at h1
      have := hr.row
      rw [h1] at this
      simp at this)).trans h1, treeAt_but hr ho h2, treeAt_but hr ho h3⟩
/-- A machine's parts being read. -/
structure PtI (gR g4 g5 : Nat) (R : RdV) (M : MacV) (T : Tr) (w : World) : Prop where
  rd : RdAt w gR R
  box : w.heap[g4]? = some (.cells #[.pointer (some ⟨gR, 0, none⟩)] 141 (0, 0))
  p : PartAt w g5 M T.ptr
  tr : TreeAt w T
  sh : T.sh = M.sh
  ne : gR ≠ g4 ∧ gR ≠ g5 ∧ g4 ≠ g5
theorem PtI.lt {gR g4 g5 : Nat} {R : RdV} {M : MacV} {T : Tr} {w : World} (h : PtI gR g4 g5 R M T w) : g4 < w.heap.size ∧ g5 < w.heap.size := ⟨(Array.getElem?_eq_some_iff.1 h.box).1, (Array.getElem?_eq_some_iff.1 h.p).1⟩
theorem PtI.get {gR g4 g5 : Nat} {R : RdV} {M : MacV} {T : Tr} {w : World} (h : PtI gR g4 g5 R M T w) : w.cell? ⟨g4, 0, none⟩ = some (.pointer (some ⟨gR, 0, none⟩)) := cell_of_row _ _ _ _ _ _ h.box
theorem PtI.only {gR g4 g5 : Nat} {R R' : RdV} {M : MacV} {T : Tr} {w w' : World} (h : PtI gR g4 g5 R M T w) (hr : RdAt w' gR R') (ho : But gR w.heap.size w w') : PtI gR g4 g5 R' M T w' := by
  obtain ⟨n1, n2, n3⟩ := h.ne
  refine ⟨hr, (ho.block _ h.lt.1 (Ne.symm n1)).trans h.box, (ho.block _ h.lt.2 (Ne.symm n2)).trans h.p, ?_, h.sh, h.ne⟩
  exact treeAt_but h.rd ho h.tr
theorem PtI.all {gR g4 g5 : Nat} {R : RdV} {M : MacV} {T : Tr} {w : World} (h : PtI gR g4 g5 R M T w) (n : Nat) : PtI gR g4 g5 R { M with all := n } T (w.setCell ⟨g5, 0, none⟩ (.int .u8 (n : Int))) := by
  obtain ⟨n1, n2, n3⟩ := h.ne
  have ho : ∀ q, q ≠ g5 → (w.setCell ⟨g5, 0, none⟩ (.int .u8 (n : Int))).heap[q]? = w.heap[q]? := fun q hq => Below.heap_setCell _ _ _ _ (by exact hq)
  refine ⟨⟨(ho _ n2).trans h.rd.row, h.rd.len⟩, (ho _ n3).trans h.box, ?_, TreeAt.setC h.p (by simp [macCells, tabCells, lastCells]) h.tr, h.sh, h.ne⟩
  have h1 := h.p
  unfold PartAt at *
  rw [heap_setCell_same _ _ _ _ _ _ h1]
  rfl
theorem PtI.mem {gR g4 g5 : Nat} {R : RdV} {M : MacV} {T : Tr} {w : World} (h : PtI gR g4 g5 R M T w) (n : Nat) : PtI gR g4 g5 R { M with mem := n } T (w.setCell ⟨g5, 1, none⟩ (.int .u8 (n : Int))) := by
  obtain ⟨n1, n2, n3⟩ := h.ne
  have ho : ∀ q, q ≠ g5 → (w.setCell ⟨g5, 1, none⟩ (.int .u8 (n : Int))).heap[q]? = w.heap[q]? := fun q hq => Below.heap_setCell _ _ _ _ (by exact hq)
  refine ⟨⟨(ho _ n2).trans h.rd.row, h.rd.len⟩, (ho _ n3).trans h.box, ?_, TreeAt.setC h.p (by simp [macCells, tabCells, lastCells]) h.tr, h.sh, h.ne⟩
  have h1 := h.p
  unfold PartAt at *
  rw [heap_setCell_same _ _ _ _ _ _ h1]
  rfl
theorem PartAt.cells {w : World} {g : Nat} {M : MacV} {P : Option Addr} (h : PartAt w g M P) : w.cell? ⟨g, 0, none⟩ = some (.int .u8 (M.all : Int)) ∧ w.cell? ⟨g, 1, none⟩ = some (.int .u8 (M.mem : Int)) ∧ w.cell? ⟨g, 14, none⟩ = some (.pointer P) :=
  ⟨cell_of_row _ _ _ _ _ _ h, cell_of_row _ _ _ _ _ _ h, cell_of_row _ _ _ _ _ _ h⟩
theorem PartAt.thawed {w : World} {g : Nat} {M : MacV} {P : Option Addr} (h : PartAt w g M P) (j : Nat) : w.frozen? ⟨g, j, none⟩ = false := by
  unfold PartAt at h
  simp [World.frozen?, h]
theorem PartAt.tabs {w : World} {g : Nat} {M : MacV} {P : Option Addr} (h : PartAt w g M P) : w.cell? ⟨g, 2, none⟩ = some (.int .u32 (M.tab.a.seq.toNat : Int)) ∧ w.cell? ⟨g, 3, none⟩ = some (.int .u8 (M.tab.a.code : Int)) ∧ w.cell? ⟨g, 4, none⟩ = some (.string M.tab.a.text) ∧ w.cell? ⟨g, 5, none⟩ = some (.int .u32 (M.tab.b.seq.toNat : Int)) ∧ w.cell? ⟨g, 6, none⟩ = some (.int .u8 (M.tab.b.code : Int)) ∧ w.cell? ⟨g, 7, none⟩ = some (.string M.tab.b.text) ∧ w.cell? ⟨g, 8, none⟩ = some (.int .u32 (M.tab.c.seq.toNat : Int)) ∧ w.cell? ⟨g, 9, none⟩ = some (.int .u8 (M.tab.c.code : Int)) ∧ w.cell? ⟨g, 10, none⟩ = some (.string M.tab.c.text) ∧ w.cell? ⟨g, 11, none⟩ = some (.int .u32 (M.tab.d.seq.toNat : Int)) ∧ w.cell? ⟨g, 12, none⟩ = some (.int .u8 (M.tab.d.code : Int)) ∧ w.cell? ⟨g, 13, none⟩ = some (.string M.tab.d.text) :=
  ⟨cell_of_row _ _ _ _ _ _ h, cell_of_row _ _ _ _ _ _ h, cell_of_row _ _ _ _ _ _ h, cell_of_row _ _ _ _ _ _ h, cell_of_row _ _ _ _ _ _ h, cell_of_row _ _ _ _ _ _ h, cell_of_row _ _ _ _ _ _ h, cell_of_row _ _ _ _ _ _ h, cell_of_row _ _ _ _ _ _ h, cell_of_row _ _ _ _ _ _ h, cell_of_row _ _ _ _ _ _ h, cell_of_row _ _ _ _ _ _ h⟩
theorem rowSt_mid2 {g : Nat} {t : TypeId} (vs pre old post : List Value) (y : World) (h : y.heap[g]? = some (.cells (pre ++ (old ++ post)).toArray t (0, 0))) (hl : old.length = vs.length) : (rowSt y g pre.length vs).heap[g]? = some (.cells (pre ++ (vs ++ post)).toArray t (0, 0)) := by
  induction vs generalizing pre old y with
  | nil =>
    have : old = [] := List.length_eq_zero_iff.1 hl
    subst this
    exact h
  | cons v r ih =>
    match old, hl with
    | o :: os, hl =>
      have h1 : (y.setCell ⟨g, pre.length, none⟩ v).heap[g]? = some (.cells ((pre ++ [v]) ++ (os ++ post)).toArray t (0, 0)) := by
        rw [heap_setCell_same _ _ _ _ _ _ h]
        simp
      have h2 := ih (pre ++ [v]) os _ h1 (by simpa using hl)
      rw [List.length_append] at h2
      simp only [List.append_assoc, List.singleton_append] at h2
      exact h2
theorem PtI.tab {gR g4 g5 : Nat} {R : RdV} {M : MacV} {T : Tr} {w : World} (h : PtI gR g4 g5 R M T w) (t : TabV) : PtI gR g4 g5 R { M with tab := t } T (rowSt w g5 2 (tabCells t)) := by
  obtain ⟨n1, n2, n3⟩ := h.ne
  exact ⟨⟨(rowSt_other n2 _ _ _).trans h.rd.row, h.rd.len⟩, (rowSt_other n3 _ _ _).trans h.box, rowSt_mid2 (tabCells t) [.int .u8 (M.all : Int), .int .u8 (M.mem : Int)] (tabCells M.tab) [.pointer T.ptr] w h.p rfl, TreeAt.row h.p (by decide) _ _ h.tr, h.sh, h.ne⟩
set_option maxHeartbeats 4000000 in
theorem kvof_any (P : Option Addr) (w : World) : Calls Try.prog 24 #[.pointer P] w fun e w' => e = .returned (.agg #[.pointer P]) ∧ Below w.heap.size w w' := by
  have hb := (Below.refl w.heap.size w).alloc (Nat.le_refl _) (.cells #[.pointer P] 45)
  have h0 := heap_alloc_new w (.cells #[.pointer P] 45)
  go_enter Try.func24, Try.ntmps24
  go_wp2_with fail
  generalize w.alloc (.cells #[.pointer P] 45) = w1 at *
  have c0 : w1.cell? ⟨w.heap.size, 0, none⟩ = some (.pointer P) := cell_of_row _ _ _ _ _ _ h0
  refine bodyPost_ret (v := .agg #[.pointer P]) (by simp [results, Try.results24, go_sem, c0] <;> rfl) rfl ?_
  exact ⟨rfl, hb⟩
theorem PtI.keys {gR g4 g5 : Nat} {R : RdV} {M : MacV} {T : Tr} {w : World} (h : PtI gR g4 g5 R M T w) (X : Tr) (S : Sh) (hX : TreeAt w X) (hs : X.sh = S) : PtI gR g4 g5 R { M with sh := S } X (w.setCell ⟨g5, 14, none⟩ (.pointer X.ptr)) := by
  obtain ⟨n1, n2, n3⟩ := h.ne
  have ho : ∀ q, q ≠ g5 → (w.setCell ⟨g5, 14, none⟩ (.pointer X.ptr)).heap[q]? = w.heap[q]? := fun q hq => Below.heap_setCell _ _ _ _ (by exact hq)
  refine ⟨⟨(ho _ n2).trans h.rd.row, h.rd.len⟩, (ho _ n3).trans h.box, ?_, TreeAt.setC h.p (by simp [macCells, tabCells, lastCells]) hX, hs, h.ne⟩
  have h1 := h.p
  unfold PartAt at *
  rw [heap_setCell_same _ _ _ _ _ _ h1]
  rfl
end Go.Proofs.Ytkngadbeflepoaa
namespace Go.Proofs.Ytkngadbeflepoaa.RegJ
open Go RegK
/-- A plan: operations by their numbers. -/
inductive Plan where
  | nil : Plan
  | step (k e : Nat) (r : Plan) : Plan
  | fork (k : Nat) (r : Plan) (j : Nat) (s : Plan) : Plan
/-- A plan with its operations. -/
inductive PlanO where
  | nil : PlanO
  | bad : PlanO
  | step (o : Oper) (e : Nat) (r : PlanO) : PlanO
  | fork (o : Oper) (r : PlanO) (u : Oper) (s : PlanO) : PlanO
def Plan.len : Plan → Nat
  | .nil => 0
  | .step _ _ r => r.len + 1
  | .fork _ r _ _ => r.len + 1
def pickJ (l : List Oper) : Plan → PlanO
  | .nil => .nil
  | .step k e r => match l[k]? with | some o => .step o e (pickJ l r) | none => .bad
  | .fork k r j s => match l[k]?, l[j]? with | some o, some u => .fork o (pickJ l r) u (pickJ l s) | _, _ => .bad
section
variable {F : Fence} {n : Nat} {P : Program} {ops : Array Oper} {Q : Exit → Act → World → Prop} {md : Region.Mode}
/-- The walk: 0 reads only, 1 turns the world within R; at a fork both ways. -/
def canJ (F : Fence) (n : Nat) (P : Program) (ops : Array Oper) (Q : Exit → Act → World → Prop) : PlanO → (World → Prop) → Act → World → Prop
  | .nil, _, a, w => Q .normal a w
  | .bad, _, _, _ => False
  | .step o 0 r, R, a, w =>
    if Region.wanted o (yielded ops a.tmps) then ∃ v, (∀ x, R x → (execOp a.eval o).run P x = .ok (.value v) x) ∧ canJ F n P ops Q r R (a.put o.dst v) w
    else canJ F n P ops Q r R (a.put o.dst undef) w
  | .step o (_ + 1) r, R, a, w =>
    if Region.wanted o (yielded ops a.tmps) then o.wpIn F n P a w (fun a' w' => ∃ R' : World → Prop, (∀ x, R' x → R x) ∧ R' w' ∧ canJ F n P ops Q r R' a' w') Q
    else (∀ f, o.about P w a.eval = some f → F.fn f) ∧ canJ F n P ops Q r R (a.put o.dst undef) w
  | .fork o r u s, R, a, w =>
    (if Region.wanted o (yielded ops a.tmps) then o.wpIn F n P a w (fun a' w' => ∃ R' : World → Prop, (∀ x, R' x → R x) ∧ R' w' ∧ canJ F n P ops Q r R' a' w') Q
      else (∀ f, o.about P w a.eval = some f → F.fn f) ∧ canJ F n P ops Q r R (a.put o.dst undef) w) ∧
    (if Region.wanted u (yielded ops a.tmps) then u.wpIn F n P a w (fun a' w' => ∃ R' : World → Prop, (∀ x, R' x → R x) ∧ R' w' ∧ canJ F n P ops Q s R' a' w') Q
      else (∀ f, u.about P w a.eval = some f → F.fn f) ∧ canJ F n P ops Q s R (a.put u.dst undef) w)
def canJB (md : Region.Mode) (ops : Array Oper) : Plan → Array Bool → Bool
  | .nil, listed => (Region.ready md ops listed).isEmpty
  | .step k 0 r, listed => decide (k < ops.size) && (Region.ready md ops listed).contains k && Region.free md ops listed k && (match ops[k]? with | some o => noCall o | none => false) && canJB md ops r (listed.setIfInBounds k true)
  | .step k (_ + 1) r, listed => decide (k < ops.size) && Region.ready md ops listed == [k] && canJB md ops r (listed.setIfInBounds k true)
  | .fork k r j s, listed => decide (k < ops.size) && decide (j < ops.size) && Region.ready md ops listed == [k, j] && r.len == s.len && canJB md ops r (listed.setIfInBounds k true) && canJB md ops s (listed.setIfInBounds j true)
theorem any_canJ (hro : ∀ o ∈ ops, noDefer o = true) (hs : Region.noSelect ops = true) (hQ : ∀ c a d v w, Q (.panic c) (Act.put a d v) w → Q (.panic c) a w) : ∀ (r : Plan) (listed : Array Bool) (R : World → Prop) (a : Act) (w : World),
    listed.size = ops.size → Closed md ops listed → canJB md ops r listed = true → R w → canJ F n P ops Q (pickJ ops.toList r) R a w → anyR (fun _ => false) F n P md ops Q r.len listed R a w
  | .nil, _, _, _, _, _, _, hB, _, h => ⟨by simpa [canJB] using hB, h⟩
  | .step k 0 r, listed, R, a, w, hsz, hcl, hB, hR, h => by
    simp only [canJB, Bool.and_eq_true, decide_eq_true_eq] at hB
    obtain ⟨⟨⟨⟨hk, hr⟩, hf⟩, hc⟩, hB'⟩ := hB
    have h0 : ops[k]? = some ops[k] := Array.getElem?_eq_getElem hk
    have h0' : ops.toList[k]? = some ops[k] := by simp [hk]
    simp only [h0] at hc
    have hsz' : (listed.setIfInBounds k true).size = ops.size := by simpa using hsz
    have hcl' := hcl.set (i := k) (by simpa using hr)
    simp only [pickJ, h0', canJ] at h
    have hbs : ∀ j, listed.getD j true = false → j ≠ k → (fun _ => false) j = true → k ∈ back md ops ops.size (onsOf md ops j) := fun j _ _ h3 => by cases h3
    by_cases hw : Region.wanted ops[k] (yielded ops a.tmps) = true
    · simp only [hw, if_true] at h
      obtain ⟨v, hv, hK⟩ := h
      exact first hro h0 hc (Region.noSelect_spec hs) (fun c a w => hQ c a _ _ w) r.len listed R a w (Region.free_spec h0 hf) hbs hcl (by simpa using hr) hR (.inl ⟨hw, hv⟩) (any_canJ hro hs hQ r _ R _ w hsz' hcl' hB' hR hK)
    · simp only [hw] at h
      exact first hro h0 hc (Region.noSelect_spec hs) (fun c a w => hQ c a _ _ w) r.len listed R a w (Region.free_spec h0 hf) hbs hcl (by simpa using hr) hR (.inr ⟨by simpa using hw, rfl⟩) (any_canJ hro hs hQ r _ R _ w hsz' hcl' hB' hR h)
  | .step k (m + 1) r, listed, R, a, w, hsz, hcl, hB, hR, h => by
    simp only [canJB, Bool.and_eq_true, beq_iff_eq, decide_eq_true_eq] at hB
    obtain ⟨⟨hk, hr⟩, hB'⟩ := hB
    have h0 : ops[k]? = some ops[k] := Array.getElem?_eq_getElem hk
    have h0' : ops.toList[k]? = some ops[k] := by simp [hk]
    have hsz' : (listed.setIfInBounds k true).size = ops.size := by simpa using hsz
    have hcl' := hcl.set (i := k) (by rw [hr]; simp)
    simp only [pickJ, h0', canJ] at h
    refine ⟨fun h => (by rw [hr] at h; cases h), fun j hj => ?_⟩
    rw [hr] at hj
    obtain rfl : j = k := by simpa using hj
    unfold wpOpIn
    simp only [h0]
    by_cases hw : Region.wanted ops[j] (yielded ops a.tmps) = true
    · simp only [hw, if_true] at h ⊢
      exact Oper.wpIn_mono (fun a' w' ⟨R', g0, g1, g2⟩ => ⟨R', g1, .inr g0, any_canJ hro hs hQ r _ R' a' w' hsz' hcl' hB' g1 g2⟩) h
    · simp only [hw] at h ⊢
      exact ⟨h.1, R, hR, .inr fun _ h => h, any_canJ hro hs hQ r _ R _ w hsz' hcl' hB' hR h.2⟩
  | .fork k r j s, listed, R, a, w, hsz, hcl, hB, hR, h => by
    simp only [canJB, Bool.and_eq_true, beq_iff_eq, decide_eq_true_eq] at hB
    obtain ⟨⟨⟨⟨⟨hk, hj⟩, hr⟩, hlen⟩, hB1⟩, hB2⟩ := hB
    have h0 : ops[k]? = some ops[k] := Array.getElem?_eq_getElem hk
    have h0' : ops.toList[k]? = some ops[k] := by simp [hk]
    have g0 : ops[j]? = some ops[j] := Array.getElem?_eq_getElem hj
    have g0' : ops.toList[j]? = some ops[j] := by simp [hj]
    have hcl1 := hcl.set (i := k) (by rw [hr]; simp)
    have hcl2 := hcl.set (i := j) (by rw [hr]; simp)
    simp only [pickJ, h0', g0', canJ] at h
    obtain ⟨h1, h2⟩ := h
    refine ⟨fun h => (by rw [hr] at h; cases h), fun i hi => ?_⟩
    rw [hr] at hi
    have hi' : i = k ∨ i = j := by simpa using hi
    rcases hi' with rfl | rfl
    · unfold wpOpIn
      simp only [h0]
      by_cases hw : Region.wanted ops[i] (yielded ops a.tmps) = true
      · simp only [hw, if_true] at h1 ⊢
        exact Oper.wpIn_mono (fun a' w' ⟨R', g0, g1, g2⟩ => ⟨R', g1, .inr g0, any_canJ hro hs hQ r _ R' a' w' (by simpa using hsz) hcl1 hB1 g1 g2⟩) h1
      · simp only [hw] at h1 ⊢
        exact ⟨h1.1, R, hR, .inr fun _ h => h, any_canJ hro hs hQ r _ R _ w (by simpa using hsz) hcl1 hB1 hR h1.2⟩
    · unfold wpOpIn
      simp only [g0]
      by_cases hw : Region.wanted ops[i] (yielded ops a.tmps) = true
      · simp only [hw, if_true] at h2 ⊢
        exact Oper.wpIn_mono (fun a' w' ⟨R', g0, g1, g2⟩ => ⟨R', g1, .inr g0, by
          have := any_canJ hro hs hQ s _ R' a' w' (by simpa using hsz) hcl2 hB2 g1 g2
          show anyR (fun _ => false) F n P md ops Q r.len _ _ _ _
          rw [hlen]
          exact this⟩) h2
      · simp only [hw] at h2 ⊢
        exact ⟨h2.1, R, hR, .inr fun _ h => h, by
          have := any_canJ hro hs hQ s _ R _ w (by simpa using hsz) hcl2 hB2 hR h2.2
          show anyR (fun _ => false) F n P md ops Q r.len _ _ _ _
          rw [hlen]
          exact this⟩
/-- The walk, behind a name that nothing opens. -/
structure Can (F : Fence) (n : Nat) (P : Program) (ops : Array Oper) (Q : Exit → Act → World → Prop) (l : PlanO) (R : World → Prop) (a : Act) (w : World) : Prop where
  out : canJ F n P ops Q l R a w
theorem wpIn_region_plan (R : World → Prop) (π : Plan) {id : Nat} {a : Act} {w : World} {l : List Oper} (hro : l.all noDefer = true) (hm : P.follows .mixedOrders = true)
    (hB : (Region.noSelect l.toArray && canJB .any l.toArray π (Array.replicate l.length false) && (π.len == l.length)) = true)
    (hQ : ∀ c a d v w, Q (.panic c) (Act.put a d v) w → Q (.panic c) a w) (hR : R { w with drawn := w.drawn + 1 })
    (h : Can F n P l.toArray Q (pickJ l π) R a { w with drawn := w.drawn + 1 }) : (Code.region id l.toArray true).wpIn F n P Q a w := by
  simp only [Bool.and_eq_true, beq_iff_eq] at hB
  obtain ⟨⟨h1, h2⟩, h4⟩ := hB
  refine wpIn_region_any hm (any_of (bar := fun _ => false) _ _ R _ _ ?_)
  have := any_canJ (F := F) (n := n) (P := P) (ops := l.toArray) (md := .any) (Q := Q) (fun o ho => List.all_eq_true.1 hro o (by simpa using ho)) h1 hQ π (Array.replicate l.length false) R a _ (by simp) (Closed.none _) h2 hR (by simpa using h.out)
  simpa [h4] using this
theorem reads {R : World → Prop} {a : Act} {w : World} {o : Oper} {r : PlanO}
    (h : ∀ K : Act → Prop, (∀ a, Can F n P ops Q r R a w → K a) → if Region.wanted o (yielded ops a.tmps) then ∃ v, (∀ x, R x → (execOp a.eval o).run P x = .ok (.value v) x) ∧ K (a.put o.dst v) else K (a.put o.dst undef)) :
    Can F n P ops Q (.step o 0 r) R a w := ⟨h _ (fun _ h => h.out)⟩
theorem turns (hfn : ∀ f, F.fn f) {R : World → Prop} {a : Act} {w : World} {o : Oper} {r : PlanO}
    (h : ∀ (K : Act → World → Prop) (K0 : Act → Prop), (∀ (R' : World → Prop) a w, (∀ x, R' x → R x) → R' w → Can F n P ops Q r R' a w → K a w) → (∀ a, Can F n P ops Q r R a w → K0 a) →
      if Region.wanted o (yielded ops a.tmps) then o.wpIn F n P a w K Q else K0 (a.put o.dst undef)) :
    Can F n P ops Q (.step o 1 r) R a w := by
  have h' := h (fun a' w' => ∃ R' : World → Prop, (∀ x, R' x → R x) ∧ R' w' ∧ canJ F n P ops Q r R' a' w') (fun a => canJ F n P ops Q r R a w) (fun R' _ _ h0 h1 h2 => ⟨R', h0, h1, h2.out⟩) (fun _ h => h.out)
  refine ⟨?_⟩
  simp only [canJ]
  split
  · rename_i hw; rw [if_pos hw] at h'; exact h'
  · rename_i hw; rw [if_neg hw] at h'; exact ⟨fun f _ => hfn f, h'⟩
theorem nil {R : World → Prop} {a : Act} {w : World} (h : Q .normal a w) : Can F n P ops Q .nil R a w := ⟨h⟩
end
end Go.Proofs.Ytkngadbeflepoaa.RegJ
