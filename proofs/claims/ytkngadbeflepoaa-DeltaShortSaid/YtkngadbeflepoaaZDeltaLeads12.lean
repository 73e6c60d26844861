/- An argument that is a slice of structs of one-cell fields, opened to its cells, typed. Over any program. Condition: each field of the struct is one cell. -/
import Derived.WalkKit
import Derived.Deep.Slices
import Derived.Deep.Fields
import Derived.ChangeSame
import Derived.Below
import Derived.Test.YtkngadbeflepoaaZDeltaLeads11
import Derived.Test.YtkngadbeflepoaaZDeltaLeads9
import Derived.OwnWalk
import Derived.Maps.AppendAt
import Derived.Laws.AppendOwnNone
import Derived.Deep.DeepCutAuto
namespace Go.Proofs.Ytkngadbeflepoaa
open Go.ChangeShapes Go.WideShapes Go.Deep Go.RowKit
/-- The slice's elements are z; element i lies in k cells, which hold 'enc' of it. -/
structure SliceAt {α : Type} (k : Nat) (enc : α → List Value) (w : World) (a : Option Addr) (len : Nat) (z : List α) : Prop where
  hlen : z.length = len
  hmax : len ≤ maxLen
  cells : ∀ (i : Nat) (x : α), z[i]? = some x → ∃ b o, a = some ⟨b, o, none⟩ ∧ b < w.heap.size ∧ ∀ j v, (enc x)[j]? = some v → w.cell? ⟨b, o + (i * k + j), none⟩ = some v
theorem SliceAt.below {α : Type} {k : Nat} {enc : α → List Value} {w w' : World} {a : Option Addr} {len : Nat} {z : List α} (h : SliceAt k enc w a len z) (hb : Below w.heap.size w w') : SliceAt k enc w' a len z := by
  refine ⟨h.hlen, h.hmax, fun i x hi => ?_⟩
  obtain ⟨b, o, h1, h2, h3⟩ := h.cells i x hi
  refine ⟨b, o, h1, Nat.lt_of_lt_of_le h2 hb.size, fun j v hj => ?_⟩
  rw [← h3 j v hj]
  simp only [World.cell?, hb.block b h2]
section
variable {H : Type} {enc : TypeId × Value → H} {P : Program} {w : World} {base : Nat} {spare : Nat → Bool} {held : Bool}
theorem open_rows {α : Type} [Inhabited α] (toCells : α → List Value) {t e : TypeId} {fs : Array Field} {a : Option Addr} {len cap : Nat} {d : DataW H} {pl : List MemPlace} (ht : P.underlying t = some (.slice e)) (he : P.underlying e = some (.struct fs))
    (hone : oneCellFields P fs = true) (hC : P.cellsOf e = fs.size) (hpos : 0 < fs.size)
    (hx : ∀ vs : List Value, vs.length = fs.size → (∀ (j : Nat) (f : Field), fs[j]? = some f → ∃ (v : Value) (y : DataW H × List MemPlace) (n : Nat), vs[j]? = some v ∧ DataW.trod enc P w base spare held n f.type [v] = some y) → ∃ x : α, vs = toCells x)
    (h : DataW.Trod enc P w base spare held t (.slice a len cap) d pl) : ∃ z : List α, SliceAt fs.size toCells w a len z := by
  obtain ⟨m, hm⟩ := h
  rcases open_slice ht hm with ⟨h0, _⟩ | ⟨p, ln, cp, mm, n, D, Pl, hcs, hb, hl, hmx, hmm, _, hi⟩
  · have h0' : [Value.slice a len cap] = [Value.slice none 0 0] := h0
    simp only [List.cons.injEq, Value.slice.injEq, and_true] at h0'
    obtain ⟨rfl, rfl, rfl⟩ := h0'
    exact ⟨[], rfl, Nat.zero_le _, fun i x hx => by simp at hx⟩
  · have h0' : [Value.slice a len cap] = [Value.slice (some p) ln cp] := hcs
    simp only [List.cons.injEq, Value.slice.injEq, and_true] at h0'
    obtain ⟨rfl, rfl, rfl⟩ := h0'
    have hlm : len ≤ mm := by rw [hmm]; split <;> omega
    obtain ⟨g, hg⟩ := choose_lt (n := len) (p := fun i (x : α) => w.cells? base (p.add (i * fs.size)) fs.size = some (toCells x) ∧ (toCells x).length = fs.size) (fun i hil => by
      obtain ⟨cs', h1, h2⟩ := hi i (by omega)
      rw [hC] at h1
      obtain ⟨ys, n', _, _, hlen, hyl, hf⟩ := DataW.trod_struct he h2
      obtain ⟨_, hcl, _⟩ := World.cells?_some h1
      obtain ⟨x, rfl⟩ := hx cs' hcl (fun j f hj => by
        have hjl : j < fs.size := (Array.getElem?_eq_some_iff.1 hj).1
        obtain ⟨ho, hk⟩ := hone_of hone j f hj
        have hq := hf j f hj
        rw [ho, hk, take1_drop _ _ undef (by omega)] at hq
        refine ⟨cs'.getD j undef, ys[j]'(by omega), n', ?_, ?_⟩
        · simp [List.getD, List.getElem?_eq_getElem (show j < cs'.length by omega)]
        · rw [hq, List.getElem?_eq_getElem (by omega)])
      exact ⟨x, h1, hcl⟩)
    refine ⟨(List.range len).map g, by simp, by omega, fun i x hix => ?_⟩
    have hil : i < len := by
      have := (List.getElem?_eq_some_iff.1 hix).1
      simpa using this
    have hgx : g i = x := by simpa [hil] using hix
    obtain ⟨h1, h2⟩ := hg i hil
    rw [hgx] at h1 h2
    obtain ⟨_, _, hcell⟩ := World.cells?_some h1
    obtain ⟨b, o, sp⟩ := p
    obtain ⟨g1, g2⟩ := hg 0 (by omega)
    obtain ⟨_, _, gcell⟩ := World.cells?_some g1
    have h00 := gcell 0 hpos
    rw [List.getElem?_eq_getElem (by omega)] at h00
    have hspot : sp = none := by simpa [Addr.add] using World.cell?_spot h00
    subst hspot
    have hlt := World.block_lt_of_cell? _ _ h00
    refine ⟨b, o, rfl, ?_, fun j v hj => ?_⟩
    · simpa [Addr.add] using hlt
    · have hjl : j < fs.size := by
        have := (List.getElem?_eq_some_iff.1 hj).1
        omega
      have := hcell j hjl
      rw [add_add, hj] at this
      rw [← this, add_plain]
end
end Go.Proofs.Ytkngadbeflepoaa
namespace Go.Proofs.Ytkngadbeflepoaa
open Go.RowKit
theorem CmdAt.thawed {w : World} {b : Nat} {c : CmdV} (h : CmdAt w b c) (j : Nat) : w.frozen? ⟨b, j, none⟩ = false := by
  unfold CmdAt at h
  simp [World.frozen?, h]
set_option maxRecDepth 100000 in
theorem tree_any (P : Option Addr) (w : World) : Calls Try.prog 25 #[.agg #[.pointer P]] w fun e w' => e = .returned (.pointer P) ∧ Below w.heap.size w w' := by
  have hb1 := (Below.refl w.heap.size w).alloc (Nat.le_refl _) (.cells #[.pointer P] 45)
  have h1 := VarAt.new w (.pointer P) 45
  go_enter Try.func25, Try.ntmps25
  go_upto_region 1 with fail
  change Code.wp _ _ _ _ (w.alloc (.cells #[.pointer P] 45))
  generalize w.alloc (.cells #[.pointer P] 45) = w1 at *
  have c0 := h1.cell
  go_wp2_with fail
  go_ret
  exact ⟨rfl, hb1⟩
end Go.Proofs.Ytkngadbeflepoaa
namespace Go.Proofs.Ytkngadbeflepoaa
open Go.RowKit
theorem layRep (ρ : Operand → Value) (x : World) (o : Oper) (h : o.op = .alloc 51) : (execOp ρ o).run Try.prog x = .ok (.value (RegL.ptr x.heap.size)) (x.alloc (.cells (repCells 0 ByteArray.empty).toArray 51 (0, 0))) := by
  simp only [execOp, h]
  go_simp
  exact ⟨rfl, rfl⟩
end Go.Proofs.Ytkngadbeflepoaa
namespace Go.Proofs.Ytkngadbeflepoaa
open Go.RowKit
structure TAct where
  act : BitVec 8
  key : ByteArray
  val : ByteArray
instance : Inhabited TAct := ⟨⟨0, ByteArray.empty, ByteArray.empty⟩⟩
theorem tr_u8 {n : Int} (h : (Lit.int .u8 n).wf = true) : ∃ x : BitVec 8, n = (x.toNat : Int) := by
  have h' : 0 ≤ n ∧ n ≤ 255 := by simpa [Lit.wf, IntKind.min, IntKind.max, IntKind.signed, IntKind.bits] using h
  exact ⟨BitVec.ofInt 8 n, by simp only [BitVec.toNat_ofInt]; omega⟩
theorem tsucc {n : Nat} (h : n ≤ 9223372036854775806) : IntKind.i64.wrap ((n : Int) + 1) = ((n + 1 : Nat) : Int) := by rw [IntKind.wrap_i64] <;> omega
def stepSh (x : TAct) (S : Sh) : Sh := if x.act.toNat = 0 then delSh x.key S (S.look x.key) else putSh x.key x.val S (S.look x.key)
end Go.Proofs.Ytkngadbeflepoaa
namespace Go.Proofs.Ytkngadbeflepoaa
open Go.RowKit
abbrev CmdsAt := SliceAt 7 cmdCells
theorem tr_u32 {n : Int} (h : (Lit.int .u32 n).wf = true) : ∃ x : BitVec 32, n = (x.toNat : Int) := by
  have h' : 0 ≤ n ∧ n ≤ 4294967295 := by simpa [Lit.wf, IntKind.min, IntKind.max, IntKind.signed, IntKind.bits] using h
  exact ⟨BitVec.ofInt 32 n, by simp only [BitVec.toNat_ofInt]; omega⟩
theorem cmds_open {H : Type} {enc : TypeId × Value → H} {w : World} {base : Nat} {spare : Nat → Bool} {held : Bool} {a : Option Addr} {len cap : Nat} {d : DataW H} {pl : List MemPlace}
    (h : DataW.Trod enc Try.prog w base spare held 42 (.slice a len cap) d pl) : ∃ z : List CmdV, CmdsAt w a len z := by
  refine open_rows cmdCells Try.underlying42 Try.underlying56 (by kernel_rfl) (by kernel_rfl) (by decide) ?_ h
  intro vs hl hf
  obtain ⟨v0, y0, n0, e0, t0⟩ := hf 0 _ rfl
  obtain ⟨v1, y1, n1, e1, t1⟩ := hf 1 _ rfl
  obtain ⟨v2, y2, n2, e2, t2⟩ := hf 2 _ rfl
  obtain ⟨v3, y3, n3, e3, t3⟩ := hf 3 _ rfl
  obtain ⟨v4, y4, n4, e4, t4⟩ := hf 4 _ rfl
  obtain ⟨v5, y5, n5, e5, t5⟩ := hf 5 _ rfl
  obtain ⟨v6, y6, n6, e6, t6⟩ := hf 6 _ rfl
  obtain ⟨m0, q0, _, f0⟩ := DataW.trod_int Try.underlying5 t0
  obtain ⟨m1, q1, _, f1⟩ := DataW.trod_int Try.underlying54 t1
  obtain ⟨m2, q2, _, f2⟩ := DataW.trod_int Try.underlying5 t2
  obtain ⟨m3, q3, _, _⟩ := DataW.trod_string Try.underlying9 t3
  obtain ⟨m4, q4, _, _⟩ := DataW.trod_string Try.underlying9 t4
  obtain ⟨m5, q5, _, _⟩ := DataW.trod_string Try.underlying9 t5
  obtain ⟨m6, q6, _, f6⟩ := DataW.trod_int Try.underlying5 t6
  obtain ⟨x0, rfl⟩ := tr_u8 f0
  obtain ⟨x1, rfl⟩ := tr_u32 f1
  obtain ⟨x2, rfl⟩ := tr_u8 f2
  obtain ⟨x6, rfl⟩ := tr_u8 f6
  simp only [List.cons.injEq, and_true] at q0 q1 q2 q3 q4 q5 q6
  subst q0 q1 q2 q3 q4 q5 q6
  refine ⟨⟨x0, x1, ⟨x2⟩, m3, m4, m5, x6⟩, ?_⟩
  match vs, hl with
  | [a0, a1, a2, a3, a4, a5, a6], _ =>
    simp only [List.getElem?_cons_zero, List.getElem?_cons_succ, Option.some.injEq] at e0 e1 e2 e3 e4 e5 e6
    rw [e0, e1, e2, e3, e4, e5, e6]
    rfl
theorem cmds_cells {w : World} {a : Option Addr} {len : Nat} {z : List CmdV} (h : CmdsAt w a len z) {i : Nat} (hi : i < len) :
    ∃ b o, a = some ⟨b, o, none⟩ ∧ b < w.heap.size ∧ w.cell? ⟨b, o + i * 7, none⟩ = some (.int .u8 ((z.getD i default).client.toNat : Int)) ∧
      w.cell? ⟨b, o + i * 7 + 1, none⟩ = some (.int .u32 ((z.getD i default).seq.toNat : Int)) ∧ w.cell? ⟨b, o + i * 7 + 2, none⟩ = some (.int .u8 ((z.getD i default).kind.toNat : Int)) ∧
      w.cell? ⟨b, o + i * 7 + 3, none⟩ = some (.string (z.getD i default).key) ∧ w.cell? ⟨b, o + i * 7 + 4, none⟩ = some (.string (z.getD i default).old) ∧
      w.cell? ⟨b, o + i * 7 + 5, none⟩ = some (.string (z.getD i default).fresh) ∧ w.cell? ⟨b, o + i * 7 + 6, none⟩ = some (.int .u8 ((z.getD i default).set.toNat : Int)) := by
  have hl := h.hlen
  have hz : z[i]? = some (z.getD i default) := by simp [List.getD, List.getElem?_eq_getElem (show i < z.length by omega)]
  obtain ⟨b, o, h1, h2, h3⟩ := h.cells i _ hz
  exact ⟨b, o, h1, h2, h3 0 _ rfl, h3 1 _ rfl, h3 2 _ rfl, h3 3 _ rfl, h3 4 _ rfl, h3 5 _ rfl, h3 6 _ rfl⟩
/-- What Great tells. -/
def kgreatS (z : List CmdV) : Bool := decide (100 < z.length) || z.any fun x => decide (300 < x.key.size) || (decide (300 < x.old.size) || decide (300 < x.fresh.size))
theorem kgreat_ok {z : List CmdV} (h : kgreatS z = false) : z.length ≤ 100 ∧ ∀ i, i < z.length → (z.getD i default).key.size ≤ 300 ∧ (z.getD i default).old.size ≤ 300 ∧ (z.getD i default).fresh.size ≤ 300 := by
  simp only [kgreatS, Bool.or_eq_false_iff, decide_eq_false_iff_not, List.any_eq_false] at h
  refine ⟨by omega, fun i hi => ?_⟩
  have := h.2 (z.getD i default) (by rw [List.getD, List.getElem?_eq_getElem hi]; exact List.getElem_mem _)
  simp only [Bool.or_eq_true, decide_eq_true_eq, not_or] at this
  omega
set_option maxHeartbeats 2000000 in
theorem kgreat_any (a : Option Addr) (len cap : Nat) (z : List CmdV) (w : World) (h : CmdsAt w a len z) :
    Calls Try.prog 22 #[.slice a len cap] w fun e w' => e = .returned (.bool (kgreatS z)) ∧ w = w' := by
  have hl := h.hlen
  have hm := h.hmax
  unfold maxLen at hm
  by_cases hbig : 100 < len
  · have hg : kgreatS z = true := by simp [kgreatS, hl, hbig]
    have hbig' : (100 : Int) < (len : Int) := by omega
    have H := Lib.hid h; clear h
    have Hg := Lib.hid hg; clear hg
    clear hl
    go_enter Try.func22, Try.ntmps22
    go_wp2_with fail
    go_ret
    exact ⟨by rw [Hg.out]; rfl, rfl⟩
  · have hbig' : ¬ (100 : Int) < (len : Int) := by omega
    have Hl := Lib.hid hl; clear hl
    have H := Lib.hid h; clear h
    go_enter Try.func22, Try.ntmps22
    go_wp2_with fail
    go_loopw [3] (fun s3 wr => wr = w ∧ ∃ i : Nat, i ≤ len ∧ s3 = .int .i64 (i : Int) ∧ ∀ j, j < i → (z.getD j default).key.size ≤ 300 ∧ (z.getD j default).old.size ≤ 300 ∧ (z.getD j default).fresh.size ≤ 300) (fun s3 _ => len - (intOf s3).toNat)
    case atStart => exact ⟨rfl, 0, by omega, rfl, by omega⟩
    case round =>
      obtain ⟨rfl, i, hi, rfl, hall⟩ := hrel
      by_cases hlt : i < len
      · have hlt' : (i : Int) < (len : Int) := by omega
        obtain ⟨b, o, rfl, _, _, _, c0, c1, c2, c3, _⟩ := cmds_cells H.out hlt
        have hgt : 300 < (z.getD i default).key.size ∨ 300 < (z.getD i default).old.size ∨ 300 < (z.getD i default).fresh.size → kgreatS z = true := by
          intro hg
          have hm' : z.getD i default ∈ z := by
            have := Hl.out
            simp only [List.getD, List.getElem?_eq_getElem (show i < z.length by omega), Option.getD_some]
            exact List.getElem_mem _
          simp only [kgreatS, Bool.or_eq_true, List.any_eq_true, decide_eq_true_eq]
          exact .inr ⟨_, hm', hg⟩
        have Hgt := Lib.hid hgt; clear hgt
        clear c0
        have Hall := Lib.hid hall; clear hall
        have hsize := tsucc (n := i) (by omega)
        generalize hv : (z.getD i default).key = u at *
        generalize hv2 : (z.getD i default).old = v at *
        generalize hv3 : (z.getD i default).fresh = x at *
        have Hv := Lib.hid hv; clear hv
        have Hv2 := Lib.hid hv2; clear hv2
        have Hv3 := Lib.hid hv3; clear hv3
        by_cases hg : 300 < u.size
        · have hg' : (300 : Int) < (u.size : Int) := by omega
          go_wp2_with fail
          go_ret
          exact ⟨by rw [Hgt.out (.inl hg)]; rfl, rfl⟩
        · have hg' : ¬ (300 : Int) < (u.size : Int) := by omega
          by_cases hg2 : 300 < v.size
          · have hg2' : (300 : Int) < (v.size : Int) := by omega
            go_wp2_with fail
            go_ret
            exact ⟨by rw [Hgt.out (.inr (.inl hg2))]; rfl, rfl⟩
          · have hg2' : ¬ (300 : Int) < (v.size : Int) := by omega
            by_cases hg3 : 300 < x.size
            · have hg3' : (300 : Int) < (x.size : Int) := by omega
              go_wp2_with fail
              go_ret
              exact ⟨by rw [Hgt.out (.inr (.inr hg3))]; rfl, rfl⟩
            · have hg3' : ¬ (300 : Int) < (x.size : Int) := by omega
              go_wp2_with fail
              go_roundw
              case rel =>
                refine ⟨trivial, i + 1, by omega, rfl, fun j hj => ?_⟩
                by_cases e : j = i
                · subst e; rw [Hv.out, Hv2.out, Hv3.out]; omega
                · exact Hall.out j (by omega)
              case measure => simp [intOf]; omega
      · have hlt' : ¬ (i : Int) < (len : Int) := by omega
        have hg : kgreatS z = false := by
          have hl := Hl.out
          simp only [kgreatS, Bool.or_eq_false_iff, decide_eq_false_iff_not, List.any_eq_false]
          refine ⟨by omega, fun x hx => ?_⟩
          obtain ⟨j, hj, rfl⟩ := List.getElem_of_mem hx
          have := hall j (by omega)
          rw [List.getD, List.getElem?_eq_getElem hj] at this
          simpa using this
        have Hg := Lib.hid hg; clear hg hall
        go_wp2_with fail
        go_ret
        exact ⟨by rw [Hg.out]; rfl, rfl⟩
end Go.Proofs.Ytkngadbeflepoaa
namespace Go.Proofs.Ytkngadbeflepoaa
open Go.RowKit
def tA : ByteArray := ⟨#[97]⟩
def tB : ByteArray := ⟨#[98]⟩
def t1 : ByteArray := ⟨#[49]⟩
def t2 : ByteArray := ⟨#[50]⟩
def t3 : ByteArray := ⟨#[51]⟩
def s1 : Sh := stepSh ⟨1, tA, t1⟩ .nil
def s2 : Sh := stepSh ⟨1, tB, t2⟩ s1
def s3 : Sh := stepSh ⟨0, tB, tB⟩ s2
def s4 : Sh := stepSh ⟨1, tA, t3⟩ s3
def s5 : Sh := stepSh ⟨0, tA, tA⟩ s4
end Go.Proofs.Ytkngadbeflepoaa
namespace Go.Proofs.Ytkngadbeflepoaa
open Go.RowKit
abbrev Prs := List (ByteArray × ByteArray)
def pairCells (p : ByteArray × ByteArray) : List Value := [.string p.1, .string p.2]
def flatPairs (L : Prs) : List Value := L.flatMap pairCells
abbrev PairsAt := SliceAt 2 pairCells
def pdflt : ByteArray × ByteArray := (ByteArray.empty, ByteArray.empty)
theorem pairs_len (L : Prs) : (flatPairs L).length = L.length * 2 := by
  induction L with
  | nil => rfl
  | cons a L ih => simp only [flatPairs, List.flatMap_cons, List.length_append, List.length_cons] at ih ⊢; rw [ih]; simp [pairCells]; omega
theorem pairs_at : ∀ (l : Prs) (i : Nat) (x : ByteArray × ByteArray) (j : Nat) (v : Value), l[i]? = some x → (pairCells x)[j]? = some v → (flatPairs l)[i * 2 + j]? = some v
  | [], i, x, j, v, h, _ => by simp at h
  | p :: l, 0, x, j, v, h, hj => by
    have hj2 : j < 2 := (List.getElem?_eq_some_iff.1 hj).1
    simp only [List.getElem?_cons_zero, Option.some.injEq] at h
    subst h
    simp only [flatPairs, List.flatMap_cons, Nat.zero_mul, Nat.zero_add]
    rw [List.getElem?_append_left (by simpa [pairCells] using hj2)]
    exact hj
  | p :: l, i + 1, x, j, v, h, hj => by
    simp only [List.getElem?_cons_succ] at h
    have := pairs_at l i x j v h hj
    simp only [flatPairs, List.flatMap_cons]
    rw [List.getElem?_append_right (by simp [pairCells]; omega)]
    have e : (i + 1) * 2 + j - (pairCells p).length = i * 2 + j := by simp [pairCells]; omega
    rw [e]
    exact this
theorem PairsAt.of_own {w : World} {base : Nat} {t : TypeId} {A : Option Addr} {n c : Nat} {l : Prs} (h : w.ownsRow base t 2 (.slice A n c) n (flatPairs l)) : PairsAt w A n l := by
  have hl : l.length = n := by have := h.1; rw [pairs_len] at this; omega
  rcases h.2 with ⟨e1, e2⟩ | ⟨g, cap, cur, e1, h2, h3, h4, h5, _, _⟩
  · subst e2
    exact ⟨hl, Nat.zero_le _, fun i x hi => by
      have : l = [] := List.length_eq_zero_iff.1 hl
      rw [this] at hi; simp at hi⟩
  · simp only [Value.slice.injEq] at e1
    obtain ⟨rfl, _, rfl⟩ := e1
    refine ⟨hl, by omega, fun i x hi => ⟨g, 0, rfl, (Array.getElem?_eq_some_iff.1 h3).1, fun j v hj => ?_⟩⟩
    have := h.cells (g := g) rfl (i * 2 + j) v (pairs_at l i x j v hi hj)
    rw [WideShapes.add_plain] at this
    exact this
/-- Where a key is, or would be. -/
def idxOf (L : Prs) (k : ByteArray) : Nat := (L.takeWhile (ltB k)).length
def isAt (L : Prs) (k : ByteArray) : Bool := match L.drop (idxOf L k) with | [] => false | p :: _ => decide (p.1 = k)
theorem drop_pair {L : Prs} {i : Nat} (h : i < L.length) : L.drop i = L.getD i pdflt :: L.drop (i + 1) := by
  rw [List.drop_eq_getElem_cons h]
  simp [List.getD, List.getElem?_eq_getElem h]
end Go.Proofs.Ytkngadbeflepoaa
namespace Go.Proofs.Ytkngadbeflepoaa
open Go.RowKit
theorem idx_cons (a : ByteArray × ByteArray) (L : Prs) (k : ByteArray) : idxOf (a :: L) k = if ltB k a then idxOf L k + 1 else 0 := by
  unfold idxOf
  by_cases h : ltB k a = true
  · rw [if_pos h, List.takeWhile_cons_of_pos h]; rfl
  · rw [if_neg h, List.takeWhile_cons_of_neg h]; rfl
theorem isAt_lt {L : Prs} {k : ByteArray} (h : isAt L k = true) : idxOf L k < L.length := by
  unfold isAt at h
  rcases Nat.lt_or_ge (idxOf L k) L.length with h' | h'
  · exact h'
  · rw [List.drop_of_length_le h'] at h; cases h
theorem idx_split (k : ByteArray) : ∀ {L : Prs}, Asc L → L.take (idxOf L k) = L.filter (ltB k) ∧ L.drop (idxOf L k + if isAt L k then 1 else 0) = L.filter (gtB k)
  | [], _ => ⟨rfl, by simp [idxOf, isAt]⟩
  | a :: L, h => by
    obtain ⟨h1, h2⟩ := List.pairwise_cons.1 h
    obtain ⟨e1, e2⟩ := idx_split k h2
    have hi := idx_cons a L k
    by_cases hlt : ltB k a = true
    · rw [if_pos hlt] at hi
      have hat : isAt (a :: L) k = isAt L k := by unfold isAt; rw [hi]; rfl
      have hgt : gtB k a = false := slt_asymm hlt
      rw [hat, hi]
      refine ⟨?_, ?_⟩
      · rw [List.take_succ_cons, e1, List.filter_cons_of_pos hlt]
      · rw [List.filter_cons_of_neg (by rw [hgt]; exact Bool.false_ne_true), ← e2, show idxOf L k + 1 + (if isAt L k then 1 else 0) = (idxOf L k + if isAt L k then 1 else 0) + 1 by omega, List.drop_succ_cons]
    · rw [if_neg hlt] at hi
      have hno : ∀ q ∈ a :: L, ltB k q = false := by
        intro q hq
        rcases List.mem_cons.1 hq with rfl | hq
        · simpa using hlt
        · rw [Bool.eq_false_iff]
          intro hc
          exact hlt (slt_trans (h1 q hq) hc)
      have hat : isAt (a :: L) k = decide (a.1 = k) := by unfold isAt; rw [hi]; rfl
      rw [hi]
      refine ⟨by rw [filter_no hno]; rfl, ?_⟩
      rw [hat]
      by_cases e : a.1 = k
      · have hgt : gtB k a = false := by unfold gtB; rw [e]; exact slt_irrefl k
        simp only [e, decide_true, if_true, Nat.zero_add, List.drop_succ_cons, List.drop_zero]
        rw [List.filter_cons_of_neg (by rw [hgt]; exact Bool.false_ne_true)]
        exact (filter_all fun q hq => by unfold gtB; rw [← e]; exact h1 q hq).symm
      · have hka : slt k a.1 = true := by
          rw [← Bool.not_eq_false]
          intro hc
          exact e (slt_total (by simpa [ltB] using hlt) hc)
        simp only [e, decide_false, Bool.false_eq_true, if_false, Nat.zero_add, List.drop_zero]
        exact (filter_all fun q hq => by
          rcases List.mem_cons.1 hq with rfl | hq
          · exact hka
          · exact slt_trans hka (h1 q hq)).symm
theorem rm_no {L : Prs} (h : Asc L) (k : ByteArray) (ha : isAt L k = false) : L = rmL L k := by
  obtain ⟨e1, e2⟩ := idx_split k h
  rw [ha] at e2
  simp only [Bool.false_eq_true, if_false, Nat.add_zero] at e2
  unfold rmL
  rw [← e1, ← e2, List.take_append_drop]
def POk (A : Option Addr) (n c : Nat) : Prop := (A = none ∧ n = 0 ∧ c = 0) ∨ ∃ b o, A = some ⟨b, o, none⟩ ∧ n ≤ c ∧ c ≤ maxLen
theorem own_pok {w : World} {base : Nat} {e : TypeId} {size : Nat} {A : Option Addr} {n c : Nat} {xs : List Value} (h : w.ownsRow base e size (.slice A n c) n xs) : POk A n c := by
  rcases h.2 with ⟨e1, e2⟩ | ⟨g, cap, cur, e1, h2, h3, h4, h5, _, _⟩
  · simp only [Value.slice.injEq] at e1
    exact .inl ⟨e1.1, e2, e1.2.2⟩
  · simp only [Value.slice.injEq] at e1
    exact .inr ⟨g, 0, e1.1, by rw [e1.2.2]; exact h4, by rw [e1.2.2]; exact h5⟩
/-- The block of a slice of pairs bears the pairs' type. -/
def PTy (w : World) (A : Option Addr) : Prop := ∀ b o, A = some ⟨b, o, none⟩ → ∃ cs, w.heap[b]? = some (.cells cs 38 (0, 0))
theorem PTy.below {w w' : World} {A : Option Addr} (h : PTy w A) (hb : Below w.heap.size w w') : PTy w' A := fun b o e => by
  obtain ⟨cs, h1⟩ := h b o e
  exact ⟨cs, (hb.block b (Array.getElem?_eq_some_iff.1 h1).1).trans h1⟩
/-- A slice of pairs that a call has made, or had. -/
def PrsPost (L : Prs) (w : World) (e : Ending) (w' : World) : Prop := ∃ A n c, e = .returned (.slice A n c) ∧ PairsAt w' A n L ∧ Below w.heap.size w w' ∧ POk A n c ∧ PTy w' A
/-- A row of the call's own, made since w0. -/
structure Mine (w0 w : World) (v : Value) (n : Nat) (L : Prs) : Prop where
  bel : Below w0.heap.size w0 w
  own : w.ownsRow w0.heap.size 38 2 v n (flatPairs L)
theorem Mine.alloc {w0 w : World} {v : Value} {n : Nat} {L : Prs} (h : Mine w0 w v n L) (o : Obj) : Mine w0 (w.alloc o) v n L := ⟨h.bel.alloc h.bel.size o, h.own.alloc _⟩
theorem Mine.post {w0 w : World} {A : Option Addr} {n c : Nat} {L : Prs} (h : Mine w0 w (.slice A n c) n L) : PrsPost L w0 (.returned (.slice A n c)) w := ⟨A, n, c, rfl, PairsAt.of_own h.own, h.bel, own_pok h.own, fun b o e => by
  rcases h.own.2 with ⟨e1, _⟩ | ⟨g, cap, cur, e1, _, h3, _⟩
  · simp only [Value.slice.injEq] at e1
    rw [e1.1] at e
    cases e
  · simp only [Value.slice.injEq] at e1
    rw [e1.1] at e
    cases e
    exact ⟨cur, h3⟩⟩
end Go.Proofs.Ytkngadbeflepoaa
