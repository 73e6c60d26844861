/- An argument that is a slice of structs of one-cell fields, opened to its cells, typed. Over any program. Condition: each field of the struct is one cell. -/
import Derived.WalkKit
import Derived.Deep.Slices
import Derived.Deep.Fields
import Derived.ChangeSame
import Derived.Below
import Derived.Test.YtkngadbeflepoaaMMachineBack11
import Derived.Test.YtkngadbeflepoaaMMachineBack9
namespace Go.Proofs.Ytkngadbeflepoaa
open Go.ChangeShapes Go.WideShapes Go.Deep Go.RowKit

/-- The slice's elements are z; element i lies in k cells, which hold 'enc' of it. -/
structure SliceAt {α : Type} (k : Nat) (enc : α → List Value) (w : World) (a : Option Addr) (len : Nat) (z : List α) : Prop where
  hlen : z.length = len
  hmax : len ≤ maxLen
  cells : ∀ (i : Nat) (x : α), z[i]? = some x → ∃ b o, a = some ⟨b, o, none⟩ ∧ b < w.heap.size ∧ ∀ j v, (enc x)[j]? = some v → w.cell? ⟨b, o + (i * k + j), none⟩ = some v

theorem SliceAt.below {α : Type} {k : Nat} {enc : α → List Value} {w w' : World} {a : Option Addr} {len : Nat} {z : List α} (h : SliceAt k enc w a len z) (hb : Below w.heap.size w w') : SliceAt k enc w' a len z := by
  refine ⟨h.hlen, h.hmax, fun i x hi => ?_⟩
  obtain ⟨b, o, h1, h2, h3⟩ := h.cells i x hi
  refine ⟨b, o, h1, Nat.lt_of_lt_of_le h2 hb.size, fun j v hj => ?_⟩
  rw [← h3 j v hj]
  simp only [World.cell?, hb.block b h2]

section
variable {H : Type} {enc : TypeId × Value → H} {P : Program} {w : World} {base : Nat} {spare : Nat → Bool} {held : Bool}

theorem open_rows {α : Type} [Inhabited α] (toCells : α → List Value) {t e : TypeId} {fs : Array Field} {a : Option Addr} {len cap : Nat} {d : DataW H} {pl : List MemPlace} (ht : P.underlying t = some (.slice e)) (he : P.underlying e = some (.struct fs))
    (hone : oneCellFields P fs = true) (hC : P.cellsOf e = fs.size) (hpos : 0 < fs.size)
    (hx : ∀ vs : List Value, vs.length = fs.size → (∀ (j : Nat) (f : Field), fs[j]? = some f → ∃ (v : Value) (y : DataW H × List MemPlace) (n : Nat), vs[j]? = some v ∧ DataW.trod enc P w base spare held n f.type [v] = some y) → ∃ x : α, vs = toCells x)
    (h : DataW.Trod enc P w base spare held t (.slice a len cap) d pl) : ∃ z : List α, SliceAt fs.size toCells w a len z := by
  obtain ⟨m, hm⟩ := h
  rcases open_slice ht hm with ⟨h0, _⟩ | ⟨p, ln, cp, mm, n, D, Pl, hcs, hb, hl, hmx, hmm, _, hi⟩
  · have h0' : [Value.slice a len cap] = [Value.slice none 0 0] := h0
    simp only [List.cons.injEq, Value.slice.injEq, and_true] at h0'
    obtain ⟨rfl, rfl, rfl⟩ := h0'
    exact ⟨[], rfl, Nat.zero_le _, fun i x hx => by simp at hx⟩
  · have h0' : [Value.slice a len cap] = [Value.slice (some p) ln cp] := hcs
    simp only [List.cons.injEq, Value.slice.injEq, and_true] at h0'
    obtain ⟨rfl, rfl, rfl⟩ := h0'
    have hlm : len ≤ mm := by rw [hmm]; split <;> omega
    obtain ⟨g, hg⟩ := choose_lt (n := len) (p := fun i (x : α) => w.cells? base (p.add (i * fs.size)) fs.size = some (toCells x) ∧ (toCells x).length = fs.size) (fun i hil => by
      obtain ⟨cs', h1, h2⟩ := hi i (by omega)
      rw [hC] at h1
      obtain ⟨ys, n', _, _, hlen, hyl, hf⟩ := DataW.trod_struct he h2
      obtain ⟨_, hcl, _⟩ := World.cells?_some h1
      obtain ⟨x, rfl⟩ := hx cs' hcl (fun j f hj => by
        have hjl : j < fs.size := (Array.getElem?_eq_some_iff.1 hj).1
        obtain ⟨ho, hk⟩ := hone_of hone j f hj
        have hq := hf j f hj
        rw [ho, hk, take1_drop _ _ undef (by omega)] at hq
        refine ⟨cs'.getD j undef, ys[j]'(by omega), n', ?_, ?_⟩
        · simp [List.getD, List.getElem?_eq_getElem (show j < cs'.length by omega)]
        · rw [hq, List.getElem?_eq_getElem (by omega)])
      exact ⟨x, h1, hcl⟩)
    refine ⟨(List.range len).map g, by simp, by omega, fun i x hix => ?_⟩
    have hil : i < len := by
      have := (List.getElem?_eq_some_iff.1 hix).1
      simpa using this
    have hgx : g i = x := by simpa [hil] using hix
    obtain ⟨h1, h2⟩ := hg i hil
    rw [hgx] at h1 h2
    obtain ⟨_, _, hcell⟩ := World.cells?_some h1
    obtain ⟨b, o, sp⟩ := p
    obtain ⟨g1, g2⟩ := hg 0 (by omega)
    obtain ⟨_, _, gcell⟩ := World.cells?_some g1
    have h00 := gcell 0 hpos
    rw [List.getElem?_eq_getElem (by omega)] at h00
    have hspot : sp = none := by simpa [Addr.add] using World.cell?_spot h00
    subst hspot
    have hlt := World.block_lt_of_cell? _ _ h00
    refine ⟨b, o, rfl, ?_, fun j v hj => ?_⟩
    · simpa [Addr.add] using hlt
    · have hjl : j < fs.size := by
        have := (List.getElem?_eq_some_iff.1 hj).1
        omega
      have := hcell j hjl
      rw [add_add, hj] at this
      rw [← this, add_plain]
end
end Go.Proofs.Ytkngadbeflepoaa
/- The state of keys: what the laws call beside Do: of, Tree, Great. Condition of Tree's: none. -/
namespace Go.Proofs.Ytkngadbeflepoaa
open Go.RowKit

/-- The command that 'of' makes. -/
def ofC (k : UInt8) (key old fresh : ByteArray) : CmdV := ⟨0#8, 1#32, k, key, old, fresh, 0#8⟩

theorem rowSet {w : World} {b : Nat} {cs : Array Value} {t : TypeId} (h : w.heap[b]? = some (.cells cs t (0, 0))) (i : Nat) (x : Value) : (w.setCell ⟨b, i, none⟩ x).heap[b]? = some (.cells (cs.setIfInBounds i x) t (0, 0)) := heap_setCell_same _ _ _ _ _ _ h
theorem CmdAt.thawed {w : World} {b : Nat} {c : CmdV} (h : CmdAt w b c) (j : Nat) : w.frozen? ⟨b, j, none⟩ = false := by
  unfold CmdAt at h
  simp [World.frozen?, h]

set_option maxRecDepth 100000 in
set_option maxHeartbeats 2000000 in
theorem of_any (k : UInt8) (key old fresh : ByteArray) (w : World) :
    Calls Try.prog 54 #[.int .u8 (k.toNat : Int), .string key, .string old, .string fresh] w fun e w' => e = .returned (.agg (cmdCells (ofC k key old fresh)).toArray) ∧ Below w.heap.size w w' := by
  obtain ⟨n, hn⟩ : ∃ n : Int, (k.toNat : Int) = n := ⟨_, rfl⟩
  have h1 : CmdAt (w.alloc (.cells (cmdCells ⟨0#8, 0#32, 0, ByteArray.empty, ByteArray.empty, ByteArray.empty, 0#8⟩).toArray 56)) w.heap.size ⟨0#8, 0#32, 0, ByteArray.empty, ByteArray.empty, ByteArray.empty, 0#8⟩ := CmdAt.new w _
  have hb1 := (Below.refl w.heap.size w).alloc (Nat.le_refl _) (.cells (cmdCells ⟨0#8, 0#32, 0, ByteArray.empty, ByteArray.empty, ByteArray.empty, 0#8⟩).toArray 56)
  rw [show cmdCells (ofC k key old fresh) = [.int .u8 0, .int .u32 1, .int .u8 n, .string key, .string old, .string fresh, .int .u8 0] by rw [← hn]; rfl]
  rw [hn]
  have Hn := Lib.hid hn; clear hn
  go_enter Try.func54, Try.ntmps54
  go_upto_region 1 with fail
  change Code.wp _ _ _ _ (w.alloc (.cells (cmdCells ⟨0#8, 0#32, 0, ByteArray.empty, ByteArray.empty, ByteArray.empty, 0#8⟩).toArray 56))
  generalize w.alloc (.cells (cmdCells ⟨0#8, 0#32, 0, ByteArray.empty, ByteArray.empty, ByteArray.empty, 0#8⟩).toArray 56) = w1 at *
  have H1 := Lib.hid h1; clear h1
  have Hb := Lib.hid hb1; clear hb1
  obtain ⟨d0, d1, d2, d3, d4, d5, d6⟩ := H1.out.cells
  have t0 : ∀ j, w1.frozen? ⟨w.heap.size, j, none⟩ = false := fun j => CmdAt.thawed H1.out j
  have t0' := t0 0
  have t1' := t0 1
  have t2' := t0 2
  have t3' := t0 3
  have t4' := t0 4
  have t5' := t0 5
  have t6' := t0 6
  go_wp2_with fail
  change bodyPost _ _ _ _ _ (((((((w1.setCell ⟨w.heap.size, 0, none⟩ (.int .u8 0)).setCell ⟨w.heap.size, 1, none⟩ (.int .u32 1)).setCell ⟨w.heap.size, 2, none⟩ (.int .u8 n)).setCell ⟨w.heap.size, 3, none⟩ (.string key)).setCell ⟨w.heap.size, 4, none⟩ (.string old)).setCell ⟨w.heap.size, 5, none⟩ (.string fresh)).setCell ⟨w.heap.size, 6, none⟩ (.int .u8 0))
  have r7 := rowSet (rowSet (rowSet (rowSet (rowSet (rowSet (rowSet H1.out 0 (.int .u8 0)) 1 (.int .u32 1)) 2 (.int .u8 n)) 3 (.string key)) 4 (.string old)) 5 (.string fresh)) 6 (.int .u8 0)
  have hb9 := below_setV (b := w.heap.size) (i := 6) (x := .int .u8 0) (below_setV (b := w.heap.size) (i := 5) (x := .string fresh) (below_setV (b := w.heap.size) (i := 4) (x := .string old) (below_setV (b := w.heap.size) (i := 3) (x := .string key) (below_setV (b := w.heap.size) (i := 2) (x := .int .u8 n) (below_setV (b := w.heap.size) (i := 1) (x := .int .u32 1) (below_setV (b := w.heap.size) (i := 0) (x := .int .u8 0) Hb.out (Nat.le_refl _)) (Nat.le_refl _)) (Nat.le_refl _)) (Nat.le_refl _)) (Nat.le_refl _)) (Nat.le_refl _)) (Nat.le_refl _)
  clear d0 d1 d2 d3 d4 d5 d6 t0 t0' t1' t2' t3' t4' t5' t6'
  generalize ((((((w1.setCell ⟨w.heap.size, 0, none⟩ (.int .u8 0)).setCell ⟨w.heap.size, 1, none⟩ (.int .u32 1)).setCell ⟨w.heap.size, 2, none⟩ (.int .u8 n)).setCell ⟨w.heap.size, 3, none⟩ (.string key)).setCell ⟨w.heap.size, 4, none⟩ (.string old)).setCell ⟨w.heap.size, 5, none⟩ (.string fresh)).setCell ⟨w.heap.size, 6, none⟩ (.int .u8 0) = w9 at *
  have e7 : w9.heap[w.heap.size]? = some (.cells #[.int .u8 0, .int .u32 1, .int .u8 n, .string key, .string old, .string fresh, .int .u8 0] 56 (0, 0)) := r7
  have e0 : w9.cell? ⟨w.heap.size, 0, none⟩ = some (.int .u8 0) := cell_of_row _ _ _ _ _ _ e7
  have e1 : w9.cell? ⟨w.heap.size, 1, none⟩ = some (.int .u32 1) := cell_of_row _ _ _ _ _ _ e7
  have e2 : w9.cell? ⟨w.heap.size, 2, none⟩ = some (.int .u8 n) := cell_of_row _ _ _ _ _ _ e7
  have e3 : w9.cell? ⟨w.heap.size, 3, none⟩ = some (.string key) := cell_of_row _ _ _ _ _ _ e7
  have e4 : w9.cell? ⟨w.heap.size, 4, none⟩ = some (.string old) := cell_of_row _ _ _ _ _ _ e7
  have e5 : w9.cell? ⟨w.heap.size, 5, none⟩ = some (.string fresh) := cell_of_row _ _ _ _ _ _ e7
  have e6 : w9.cell? ⟨w.heap.size, 6, none⟩ = some (.int .u8 0) := cell_of_row _ _ _ _ _ _ e7
  refine bodyPost_ret (v := .agg #[.int .u8 0, .int .u32 1, .int .u8 n, .string key, .string old, .string fresh, .int .u8 0]) (by simp [results, Try.results54, go_sem, e0, e1, e2, e3, e4, e5, e6] <;> rfl) rfl ?_
  exact ⟨rfl, hb9⟩

set_option maxRecDepth 100000 in
theorem tree_any (P : Option Addr) (w : World) : Calls Try.prog 25 #[.agg #[.pointer P]] w fun e w' => e = .returned (.pointer P) ∧ Below w.heap.size w w' := by
  have hb1 := (Below.refl w.heap.size w).alloc (Nat.le_refl _) (.cells #[.pointer P] 45)
  have h1 := VarAt.new w (.pointer P) 45
  go_enter Try.func25, Try.ntmps25
  go_upto_region 1 with fail
  change Code.wp _ _ _ _ (w.alloc (.cells #[.pointer P] 45))
  generalize w.alloc (.cells #[.pointer P] 45) = w1 at *
  have c0 := h1.cell
  go_wp2_with fail
  go_ret
  exact ⟨rfl, hb1⟩
end Go.Proofs.Ytkngadbeflepoaa
/- The state of keys: the closed chain that 'wakes' walks, worked out. No condition. -/
namespace Go.Proofs.Ytkngadbeflepoaa
open Go.RowKit

def wkA : ByteArray := ⟨#[97]⟩
def wk0 : KvOut := kvDo .nil (ofC 2 wkA ByteArray.empty ⟨#[49]⟩)
def wk1 : KvOut := kvDo wk0.sh (ofC 4 wkA ⟨#[49]⟩ ⟨#[50]⟩)
def wk2 : KvOut := kvDo wk1.sh (ofC 4 wkA ⟨#[49]⟩ ⟨#[51]⟩)
def wk3 : KvOut := kvDo wk2.sh (ofC 3 wkA ByteArray.empty ByteArray.empty)
def wk4 : KvOut := kvDo wk3.sh (ofC 1 wkA ByteArray.empty ByteArray.empty)
def wk5 : KvOut := kvDo wk2.sh (ofC 1 wkA ByteArray.empty ByteArray.empty)
theorem wk0_is : wk0.code = 0 ∧ wk0.text = ByteArray.empty := by decide +kernel
theorem wk1_is : wk1.code = 0 ∧ wk1.text = ByteArray.empty := by decide +kernel
theorem wk2_is : wk2.code = 2 ∧ wk2.text = ⟨#[50]⟩ := by decide +kernel
theorem wk3_is : wk3.code = 0 ∧ wk3.text = ⟨#[50]⟩ := by decide +kernel
theorem wk4_is : wk4.code = 1 ∧ wk4.text = ByteArray.empty := by decide +kernel
theorem wk5_is : wk5.code = 0 ∧ wk5.text = ⟨#[50]⟩ := by decide +kernel

theorem layRep (ρ : Operand → Value) (x : World) (o : Oper) (h : o.op = .alloc 51) : (execOp ρ o).run Try.prog x = .ok (.value (RegL.ptr x.heap.size)) (x.alloc (.cells (repCells 0 ByteArray.empty).toArray 51 (0, 0))) := by
  simp only [execOp, h]
  go_simp
  exact ⟨rfl, rfl⟩
theorem laySt (ρ : Operand → Value) (x : World) (o : Oper) (h : o.op = .alloc 45) : (execOp ρ o).run Try.prog x = .ok (.value (RegL.ptr x.heap.size)) (x.alloc (.cells #[.pointer none] 45 (0, 0))) := by
  simp only [execOp, h]
  go_simp
  exact rfl
/-- The world behind the stores of a new state and a reply. -/
def stW (y : World) (gs ga : Nat) (p : Option Addr) (code : Nat) (text : ByteArray) : World := ((y.setCell ⟨gs, 0, none⟩ (.pointer p)).setCell ⟨ga, 0, none⟩ (.int .u8 (code : Int))).setCell ⟨ga, 1, none⟩ (.string text)
structure StEnd (y z : World) (gs ga : Nat) (p : Option Addr) (code : Nat) (text : ByteArray) : Prop where
  st : VarAt z gs (.pointer p) 45
  rep : RepAt z ga code text
  tree : ∀ T, TreeAt y T → TreeAt z T
  oth : ∀ b, b ≠ gs → b ≠ ga → z.heap[b]? = y.heap[b]?
  bel : ∀ n w0, Below n w0 y → n ≤ gs → n ≤ ga → Below n w0 z
  size : z.heap.size = y.heap.size
theorem st_end {y : World} {gs ga : Nat} {v : Value} {c0 : Nat} {t0 : ByteArray} (hs : VarAt y gs v 45) (hr : RepAt y ga c0 t0) (hne : ga ≠ gs) (p : Option Addr) (code : Nat) (text : ByteArray) :
    StEnd y (stW y gs ga p code text) gs ga p code text := by
  have r1 : RepAt (y.setCell ⟨gs, 0, none⟩ (.pointer p)) ga c0 t0 := hr.other hne
  have r2 : RepAt ((y.setCell ⟨gs, 0, none⟩ (.pointer p)).setCell ⟨ga, 0, none⟩ (.int .u8 (code : Int))) ga code t0 := r1.set rfl
  refine ⟨((hs.set).other (Ne.symm hne)).other (Ne.symm hne), r2.set rfl, fun T hT => ?_, fun b h1 h2 => ?_, fun n w0 hb h1 h2 => below_setV (below_setV (below_setV hb h1) h2) h2, ?_⟩
  · exact TreeAt.setC r2 (by simp [repCells]) (TreeAt.setC r1 (by simp [repCells]) (TreeAt.setC hs (by simp) hT))
  · exact (Below.heap_setCell _ _ _ _ (by exact h2)).trans ((Below.heap_setCell _ _ _ _ (by exact h2)).trans (Below.heap_setCell _ _ _ _ (by exact h1)))
  · simp [stW, World.setCell]
end Go.Proofs.Ytkngadbeflepoaa
/- Trees: what the laws do by an act; acts that are too great; what is shared. Condition: few enough nodes that their number is an int. -/
namespace Go.Proofs.Ytkngadbeflepoaa
open Go.RowKit

structure TAct where
  act : BitVec 8
  key : ByteArray
  val : ByteArray
instance : Inhabited TAct := ⟨⟨0, ByteArray.empty, ByteArray.empty⟩⟩
def tactCells (x : TAct) : List Value := [.int .u8 (x.act.toNat : Int), .string x.key, .string x.val]
abbrev TActsAt := SliceAt 3 tactCells
theorem tr_u8 {n : Int} (h : (Lit.int .u8 n).wf = true) : ∃ x : BitVec 8, n = (x.toNat : Int) := by
  have h' : 0 ≤ n ∧ n ≤ 255 := by simpa [Lit.wf, IntKind.min, IntKind.max, IntKind.signed, IntKind.bits] using h
  exact ⟨BitVec.ofInt 8 n, by simp only [BitVec.toNat_ofInt]; omega⟩
theorem tacts_open {H : Type} {enc : TypeId × Value → H} {w : World} {base : Nat} {spare : Nat → Bool} {held : Bool} {a : Option Addr} {len cap : Nat} {d : DataW H} {pl : List MemPlace}
    (h : DataW.Trod enc Try.prog w base spare held 22 (.slice a len cap) d pl) : ∃ z : List TAct, TActsAt w a len z := by
  refine open_rows tactCells Try.underlying22 Try.underlying31 (by kernel_rfl) (by kernel_rfl) (by decide) ?_ h
  intro vs hl hf
  obtain ⟨v0, y0, n0, e0, t0⟩ := hf 0 _ rfl
  obtain ⟨v1, y1, n1, e1, t1⟩ := hf 1 _ rfl
  obtain ⟨v2, y2, n2, e2, t2⟩ := hf 2 _ rfl
  obtain ⟨m0, q0, _, f0⟩ := DataW.trod_int Try.underlying5 t0
  obtain ⟨m1, q1, _, _⟩ := DataW.trod_string Try.underlying9 t1
  obtain ⟨m2, q2, _, _⟩ := DataW.trod_string Try.underlying9 t2
  obtain ⟨x0, rfl⟩ := tr_u8 f0
  simp only [List.cons.injEq, and_true] at q0 q1 q2
  subst q0 q1 q2
  refine ⟨⟨x0, m1, m2⟩, ?_⟩
  match vs, hl with
  | [a0, a1, a2], _ =>
    simp only [List.getElem?_cons_zero, List.getElem?_cons_succ, Option.some.injEq] at e0 e1 e2
    rw [e0, e1, e2]
    rfl
theorem tacts_cells {w : World} {a : Option Addr} {len : Nat} {z : List TAct} (h : TActsAt w a len z) {i : Nat} (hi : i < len) :
    ∃ b o, a = some ⟨b, o, none⟩ ∧ b < w.heap.size ∧ w.cell? ⟨b, o + i * 3, none⟩ = some (.int .u8 ((z.getD i default).act.toNat : Int)) ∧
      w.cell? ⟨b, o + i * 3 + 1, none⟩ = some (.string (z.getD i default).key) ∧ w.cell? ⟨b, o + i * 3 + 2, none⟩ = some (.string (z.getD i default).val) := by
  have hl := h.hlen
  have hz : z[i]? = some (z.getD i default) := by simp [List.getD, List.getElem?_eq_getElem (show i < z.length by omega)]
  obtain ⟨b, o, h1, h2, h3⟩ := h.cells i _ hz
  exact ⟨b, o, h1, h2, h3 0 _ rfl, h3 1 _ rfl, h3 2 _ rfl⟩

/-- What Great tells. -/
def tgreatS (z : List TAct) : Bool := decide (300 < z.length) || z.any fun x => decide (100 < x.key.size) || decide (100 < x.val.size)
theorem tgreat_ok {z : List TAct} (h : tgreatS z = false) : z.length ≤ 300 ∧ ∀ i, i < z.length → (z.getD i default).key.size ≤ 100 ∧ (z.getD i default).val.size ≤ 100 := by
  simp only [tgreatS, Bool.or_eq_false_iff, decide_eq_false_iff_not, List.any_eq_false] at h
  refine ⟨by omega, fun i hi => ?_⟩
  have := h.2 (z.getD i default) (by rw [List.getD, List.getElem?_eq_getElem hi]; exact List.getElem_mem _)
  simp only [Bool.or_eq_true, decide_eq_true_eq, not_or] at this
  omega
theorem tsucc {n : Nat} (h : n ≤ 9223372036854775806) : IntKind.i64.wrap ((n : Int) + 1) = ((n + 1 : Nat) : Int) := by rw [IntKind.wrap_i64] <;> omega

set_option maxHeartbeats 2000000 in
theorem tgreat_any (a : Option Addr) (len cap : Nat) (z : List TAct) (w : World) (h : TActsAt w a len z) :
    Calls Try.prog 12 #[.slice a len cap] w fun e w' => e = .returned (.bool (tgreatS z)) ∧ w = w' := by
  have hl := h.hlen
  have hm := h.hmax
  unfold maxLen at hm
  by_cases hbig : 300 < len
  · have hg : tgreatS z = true := by simp [tgreatS, hl, hbig]
    have hbig' : (300 : Int) < (len : Int) := by omega
    have H := Lib.hid h; clear h
    have Hg := Lib.hid hg; clear hg
    clear hl
    go_enter Try.func12, Try.ntmps12
    go_wp2_with fail
    go_ret
    exact ⟨by rw [Hg.out]; rfl, rfl⟩
  · have hbig' : ¬ (300 : Int) < (len : Int) := by omega
    have Hl := Lib.hid hl; clear hl
    have H := Lib.hid h; clear h
    go_enter Try.func12, Try.ntmps12
    go_wp2_with fail
    go_loopw [3] (fun s3 wr => wr = w ∧ ∃ i : Nat, i ≤ len ∧ s3 = .int .i64 (i : Int) ∧ ∀ j, j < i → (z.getD j default).key.size ≤ 100 ∧ (z.getD j default).val.size ≤ 100) (fun s3 _ => len - (intOf s3).toNat)
    case atStart => exact ⟨rfl, 0, by omega, rfl, by omega⟩
    case round =>
      obtain ⟨rfl, i, hi, rfl, hall⟩ := hrel
      by_cases hlt : i < len
      · have hlt' : (i : Int) < (len : Int) := by omega
        obtain ⟨b, o, rfl, _, c0, c1, c2⟩ := tacts_cells H.out hlt
        have hgt : 100 < (z.getD i default).key.size ∨ 100 < (z.getD i default).val.size → tgreatS z = true := by
          intro hg
          have hm' : z.getD i default ∈ z := by
            have := Hl.out
            simp only [List.getD, List.getElem?_eq_getElem (show i < z.length by omega), Option.getD_some]
            exact List.getElem_mem _
          simp only [tgreatS, Bool.or_eq_true, List.any_eq_true, decide_eq_true_eq]
          exact .inr ⟨_, hm', hg⟩
        have Hgt := Lib.hid hgt; clear hgt
        clear c0
        have Hall := Lib.hid hall; clear hall
        have hsize := tsucc (n := i) (by omega)
        generalize hv : (z.getD i default).key = u at *
        generalize hv2 : (z.getD i default).val = v at *
        have Hv := Lib.hid hv; clear hv
        have Hv2 := Lib.hid hv2; clear hv2
        by_cases hg : 100 < u.size
        · have hg' : (100 : Int) < (u.size : Int) := by omega
          go_wp2_with fail
          go_ret
          exact ⟨by rw [Hgt.out (.inl hg)]; rfl, rfl⟩
        · have hg' : ¬ (100 : Int) < (u.size : Int) := by omega
          by_cases hg2 : 100 < v.size
          · have hg2' : (100 : Int) < (v.size : Int) := by omega
            go_wp2_with fail
            go_ret
            exact ⟨by rw [Hgt.out (.inr hg2)]; rfl, rfl⟩
          · have hg2' : ¬ (100 : Int) < (v.size : Int) := by omega
            go_wp2_with fail
            go_roundw
            case rel =>
              refine ⟨trivial, i + 1, by omega, rfl, fun j hj => ?_⟩
              by_cases e : j = i
              · subst e; rw [Hv.out, Hv2.out]; omega
              · exact Hall.out j (by omega)
            case measure => simp [intOf]; omega
      · have hlt' : ¬ (i : Int) < (len : Int) := by omega
        have hg : tgreatS z = false := by
          have hl := Hl.out
          simp only [tgreatS, Bool.or_eq_false_iff, decide_eq_false_iff_not, List.any_eq_false]
          refine ⟨by omega, fun x hx => ?_⟩
          obtain ⟨j, hj, rfl⟩ := List.getElem_of_mem hx
          have := hall j (by omega)
          rw [List.getD, List.getElem?_eq_getElem hj] at this
          simpa using this
        have Hg := Lib.hid hg; clear hg hall
        go_wp2_with fail
        go_ret
        exact ⟨by rw [Hg.out]; rfl, rfl⟩

def sameB (x : TAct) (T : Tr) : Bool := if x.act.toNat = 0 then (T.look x.key).isNone else decide (T.look x.key = some x.val)
def stepSh (x : TAct) (S : Sh) : Sh := if x.act.toNat = 0 then delSh x.key S (S.look x.key) else putSh x.key x.val S (S.look x.key)
theorem asc_step {S : Sh} (h : Asc S.kv) (x : TAct) : Asc (stepSh x S).kv := by
  unfold stepSh
  split
  · exact asc_del h _ _
  · exact asc_put h _ _ _

set_option maxRecDepth 100000 in
set_option maxHeartbeats 2000000 in
theorem does_any (x : TAct) (hk : x.key.size ≤ maxLen) (T : Tr) (n : Nat) (w : World) (hn : n ≤ w.heap.size) (hlo : T.Lo n) (hat : TreeAt w T) (hc : T.cnt ≤ 4611686018427387903) :
    Calls Try.prog 14 #[.pointer T.ptr, .agg (tactCells x).toArray] w fun e w' => ∃ X, e = .returned (.pointer X.ptr) ∧ ActPost n (sameB x T) T (stepSh x T.sh) w w' X := by
  obtain ⟨x0, x1, x2⟩ := x
  simp only at hk
  have hb := (Below.refl w.heap.size w).alloc (Nat.le_refl _) (.cells #[.int .u8 (x0.toNat : Int), .string x1, .string x2] 31)
  have hd := delT_any x1 T n (w.alloc (.cells #[.int .u8 (x0.toNat : Int), .string x1, .string x2] 31)) (Nat.le_trans hn hb.size) hlo (hat.below hb) hc
  have hp := putT_any x1 x2 hk T n (w.alloc (.cells #[.int .u8 (x0.toNat : Int), .string x1, .string x2] 31)) (Nat.le_trans hn hb.size) hlo (hat.below hb) hc
  unfold sameB stepSh
  simp only
  rw [← sh_look]
  change Calls _ _ #[.pointer T.ptr, .agg #[.int .u8 (x0.toNat : Int), .string x1, .string x2]] w _
  have Hb := Lib.hid hb; clear hb hat
  by_cases e : x0.toNat = 0
  · rw [if_pos e, if_pos e]
    have e' : (x0.toNat : Int) = 0 := by omega
    rw [e'] at hd Hb ⊢
    have Hd := Lib.hid hd; clear hd hp
    go_enter Try.func14, Try.ntmps14
    go_wp2_with ((refine Hd.out.mono ?_); rintro e w3 ⟨X, rfl, hx⟩; have Hx := Lib.hid hx; clear hx)
    go_ret
    exact ⟨X, rfl, Hx.out.at_, Hb.out.trans (Hx.out.bel.mono Hb.out.size), Hx.out.eqT, Hx.out.neT, Hx.out.mad, Hx.out.new, Hx.out.shp, Hx.out.num⟩
  · rw [if_neg e, if_neg e]
    have e' : ((x0.toNat : Int) == 0) = false := by simp; omega
    have Hp := Lib.hid hp; clear hd hp
    go_enter Try.func14, Try.ntmps14
    go_wp2_with ((refine Hp.out.mono ?_); rintro e w3 ⟨X, rfl, hx⟩; have Hx := Lib.hid hx; clear hx)
    go_ret
    exact ⟨X, rfl, Hx.out.at_, Hb.out.trans (Hx.out.bel.mono Hb.out.size), Hx.out.eqT, Hx.out.neT, Hx.out.mad, Hx.out.new, Hx.out.shp, Hx.out.num⟩
end Go.Proofs.Ytkngadbeflepoaa
