/- Play: slices of steps, opened. Condition: as each theorem says. -/
import Derived.Test.YtjjlodeiejobdaaDoorPyY
import Derived.Test.YtjjlodeiejobdaaDoorOpen
namespace Go.Proofs.YtjjlodeiejobdaaDoor
open Go.ChangeShapes Go.WideShapes Go.Deep Go.RowKit
theorem open_deep {H : Type} {enc : TypeId × Value → H} {P : Program} {w : World} {base : Nat} {spare : Nat → Bool} {held : Bool} {α : Type} [Inhabited α] (toCells : α → List Value) (k : Nat) {t e : TypeId} {a : Option Addr} {len cap : Nat} {d : DataW H} {pl : List MemPlace} (ht : P.underlying t = some (.slice e))
    (hC : P.cellsOf e = k) (hpos : 0 < k) (hx : ∀ (vs : List Value) (n : Nat) (y : DataW H × List MemPlace), vs.length = k → DataW.trod enc P w base spare held n e vs = some y → ∃ x : α, vs = toCells x)
    (h : DataW.Trod enc P w base spare held t (.slice a len cap) d pl) : ∃ z : List α, SliceAt k toCells w a len z := by
  obtain ⟨m, hm⟩ := h
  rcases open_slice ht hm with ⟨h0, _⟩ | ⟨p, ln, cp, mm, n, D, Pl, hcs, hb, hl, hmx, hmm, _, hi⟩
  · have h0' : [Value.slice a len cap] = [Value.slice none 0 0] := h0
    simp only [List.cons.injEq, Value.slice.injEq, and_true] at h0'
    obtain ⟨rfl, rfl, rfl⟩ := h0'
    exact ⟨[], rfl, Nat.zero_le _, fun i x hx => by simp at hx⟩
  · have h0' : [Value.slice a len cap] = [Value.slice (some p) ln cp] := hcs
    simp only [List.cons.injEq, Value.slice.injEq, and_true] at h0'
    obtain ⟨rfl, rfl, rfl⟩ := h0'
    have hlm : len ≤ mm := by rw [hmm]; split <;> omega
    obtain ⟨g, hg⟩ := choose_lt (n := len) (p := fun i (x : α) => w.cells? base (p.add (i * k)) k = some (toCells x) ∧ (toCells x).length = k) (fun i hil => by
      obtain ⟨cs', h1, h2⟩ := hi i (by omega)
      rw [hC] at h1
      obtain ⟨_, hcl, _⟩ := World.cells?_some h1
      obtain ⟨x, rfl⟩ := hx cs' _ _ hcl h2
      exact ⟨x, h1, hcl⟩)
    refine ⟨(List.range len).map g, by simp, by omega, fun i x hix => ?_⟩
    have hil : i < len := by
      have := (List.getElem?_eq_some_iff.1 hix).1
      simpa using this
    have hgx : g i = x := by simpa [hil] using hix
    obtain ⟨h1, h2⟩ := hg i hil
    rw [hgx] at h1 h2
    obtain ⟨_, _, hcell⟩ := World.cells?_some h1
    obtain ⟨b, o, sp⟩ := p
    obtain ⟨g1, g2⟩ := hg 0 (by omega)
    obtain ⟨_, _, gcell⟩ := World.cells?_some g1
    have h00 := gcell 0 hpos
    rw [List.getElem?_eq_getElem (by omega)] at h00
    have hspot : sp = none := by simpa [Addr.add] using World.cell?_spot h00
    subst hspot
    have hlt := World.block_lt_of_cell? _ _ h00
    refine ⟨b, o, rfl, ?_, fun j v hj => ?_⟩
    · simpa [Addr.add] using hlt
    · have hjl : j < k := by
        have := (List.getElem?_eq_some_iff.1 hj).1
        omega
      have := hcell j hjl
      rw [add_add, hj] at this
      rw [← this, add_plain]
theorem wf_u8 {x : Int} (h : (Lit.int .u8 x).wf = true) : ∃ n : Nat, n < 256 ∧ x = (n : Int) := by
  have q : 0 ≤ x ∧ x ≤ 255 := by simpa [Lit.wf, IntKind.min, IntKind.max, IntKind.signed, IntKind.bits] using h
  exact ⟨x.toNat, by omega, by omega⟩
theorem wf_u32 {x : Int} (h : (Lit.int .u32 x).wf = true) : ∃ n : Nat, n < 4294967296 ∧ x = (n : Int) := by
  have q : 0 ≤ x ∧ x ≤ 4294967295 := by simpa [Lit.wf, IntKind.min, IntKind.max, IntKind.signed, IntKind.bits] using h
  exact ⟨x.toNat, by omega, by omega⟩
theorem wf_i64 {x : Int} (h : (Lit.int .i64 x).wf = true) : -9223372036854775808 ≤ x ∧ x ≤ 9223372036854775807 := by
  simpa [Lit.wf, IntKind.min, IntKind.max, IntKind.signed, IntKind.bits] using h
abbrev StpO := { s : StpV // s.Ok }
instance : Inhabited StpO := ⟨⟨stp0 0 0, stp0_ok (by decide) (by decide)⟩⟩
def stoC (s : StpO) : List Value := stpC s.val
theorem stp_hx {H : Type} {enc : TypeId × Value → H} {w : World} {base : Nat} {spare : Nat → Bool} {held : Bool} (vs : List Value) (n : Nat) (y : DataW H × List MemPlace) (hl : vs.length = 11) (h : DataW.trod enc Tryd.prog w base spare held n 39 vs = some y) : ∃ x : StpO, vs = stoC x := by
  have c8 : Tryd.prog.cellsOf 5 = 1 := by kernel_rfl
  have c32 : Tryd.prog.cellsOf 35 = 1 := by kernel_rfl
  have ci : Tryd.prog.cellsOf 3 = 1 := by kernel_rfl
  have cs : Tryd.prog.cellsOf 9 = 1 := by kernel_rfl
  have cc : Tryd.prog.cellsOf 37 = 7 := by kernel_rfl
  match vs, hl with
  | [v0, v1, v2, v3, v4, v5, v6, v7, v8, v9, v10], _ =>
    obtain ⟨xs, n1, _, _, _, xsl, hf⟩ := DataW.trod_struct Tryd.underlying39 h
    have g0 : DataW.trod enc Tryd.prog w base spare held n1 5 [v0] = some (xs[0]'(by rw [xsl]; decide)) := by
      have g : DataW.trod enc Tryd.prog w base spare held n1 5 (List.take (Tryd.prog.cellsOf 5) (List.drop 0 [v0, v1, v2, v3, v4, v5, v6, v7, v8, v9, v10])) = xs[0]? := hf 0 _ rfl
      rw [c8, List.getElem?_eq_getElem (by rw [xsl]; decide)] at g
      exact g
    have g1 : DataW.trod enc Tryd.prog w base spare held n1 5 [v1] = some (xs[1]'(by rw [xsl]; decide)) := by
      have g : DataW.trod enc Tryd.prog w base spare held n1 5 (List.take (Tryd.prog.cellsOf 5) (List.drop 1 [v0, v1, v2, v3, v4, v5, v6, v7, v8, v9, v10])) = xs[1]? := hf 1 _ rfl
      rw [c8, List.getElem?_eq_getElem (by rw [xsl]; decide)] at g
      exact g
    have g2 : DataW.trod enc Tryd.prog w base spare held n1 5 [v2] = some (xs[2]'(by rw [xsl]; decide)) := by
      have g : DataW.trod enc Tryd.prog w base spare held n1 5 (List.take (Tryd.prog.cellsOf 5) (List.drop 2 [v0, v1, v2, v3, v4, v5, v6, v7, v8, v9, v10])) = xs[2]? := hf 2 _ rfl
      rw [c8, List.getElem?_eq_getElem (by rw [xsl]; decide)] at g
      exact g
    have g3 : DataW.trod enc Tryd.prog w base spare held n1 3 [v3] = some (xs[3]'(by rw [xsl]; decide)) := by
      have g : DataW.trod enc Tryd.prog w base spare held n1 3 (List.take (Tryd.prog.cellsOf 3) (List.drop 3 [v0, v1, v2, v3, v4, v5, v6, v7, v8, v9, v10])) = xs[3]? := hf 3 _ rfl
      rw [ci, List.getElem?_eq_getElem (by rw [xsl]; decide)] at g
      exact g
    have g4 : DataW.trod enc Tryd.prog w base spare held n1 37 [v4, v5, v6, v7, v8, v9, v10] = some (xs[4]'(by rw [xsl]; decide)) := by
      have g : DataW.trod enc Tryd.prog w base spare held n1 37 (List.take (Tryd.prog.cellsOf 37) (List.drop 4 [v0, v1, v2, v3, v4, v5, v6, v7, v8, v9, v10])) = xs[4]? := hf 4 _ rfl
      rw [cc, List.getElem?_eq_getElem (by rw [xsl]; decide)] at g
      exact g
    obtain ⟨ys, n2, _, _, _, ysl, hk⟩ := DataW.trod_struct Tryd.underlying37 g4
    have k0 : DataW.trod enc Tryd.prog w base spare held n2 5 [v4] = some (ys[0]'(by rw [ysl]; decide)) := by
      have g : DataW.trod enc Tryd.prog w base spare held n2 5 (List.take (Tryd.prog.cellsOf 5) (List.drop 0 [v4, v5, v6, v7, v8, v9, v10])) = ys[0]? := hk 0 _ rfl
      rw [c8, List.getElem?_eq_getElem (by rw [ysl]; decide)] at g
      exact g
    have k1 : DataW.trod enc Tryd.prog w base spare held n2 35 [v5] = some (ys[1]'(by rw [ysl]; decide)) := by
      have g : DataW.trod enc Tryd.prog w base spare held n2 35 (List.take (Tryd.prog.cellsOf 35) (List.drop 1 [v4, v5, v6, v7, v8, v9, v10])) = ys[1]? := hk 1 _ rfl
      rw [c32, List.getElem?_eq_getElem (by rw [ysl]; decide)] at g
      exact g
    have k2 : DataW.trod enc Tryd.prog w base spare held n2 5 [v6] = some (ys[2]'(by rw [ysl]; decide)) := by
      have g : DataW.trod enc Tryd.prog w base spare held n2 5 (List.take (Tryd.prog.cellsOf 5) (List.drop 2 [v4, v5, v6, v7, v8, v9, v10])) = ys[2]? := hk 2 _ rfl
      rw [c8, List.getElem?_eq_getElem (by rw [ysl]; decide)] at g
      exact g
    have k3 : DataW.trod enc Tryd.prog w base spare held n2 9 [v7] = some (ys[3]'(by rw [ysl]; decide)) := by
      have g : DataW.trod enc Tryd.prog w base spare held n2 9 (List.take (Tryd.prog.cellsOf 9) (List.drop 3 [v4, v5, v6, v7, v8, v9, v10])) = ys[3]? := hk 3 _ rfl
      rw [cs, List.getElem?_eq_getElem (by rw [ysl]; decide)] at g
      exact g
    have k4 : DataW.trod enc Tryd.prog w base spare held n2 9 [v8] = some (ys[4]'(by rw [ysl]; decide)) := by
      have g : DataW.trod enc Tryd.prog w base spare held n2 9 (List.take (Tryd.prog.cellsOf 9) (List.drop 4 [v4, v5, v6, v7, v8, v9, v10])) = ys[4]? := hk 4 _ rfl
      rw [cs, List.getElem?_eq_getElem (by rw [ysl]; decide)] at g
      exact g
    have k5 : DataW.trod enc Tryd.prog w base spare held n2 9 [v9] = some (ys[5]'(by rw [ysl]; decide)) := by
      have g : DataW.trod enc Tryd.prog w base spare held n2 9 (List.take (Tryd.prog.cellsOf 9) (List.drop 5 [v4, v5, v6, v7, v8, v9, v10])) = ys[5]? := hk 5 _ rfl
      rw [cs, List.getElem?_eq_getElem (by rw [ysl]; decide)] at g
      exact g
    have k6 : DataW.trod enc Tryd.prog w base spare held n2 5 [v10] = some (ys[6]'(by rw [ysl]; decide)) := by
      have g : DataW.trod enc Tryd.prog w base spare held n2 5 (List.take (Tryd.prog.cellsOf 5) (List.drop 6 [v4, v5, v6, v7, v8, v9, v10])) = ys[6]? := hk 6 _ rfl
      rw [c8, List.getElem?_eq_getElem (by rw [ysl]; decide)] at g
      exact g
    obtain ⟨m0, q0, _, w0⟩ := DataW.trod_int Tryd.underlying5 g0
    obtain ⟨x0, b0, rfl⟩ := wf_u8 w0
    obtain ⟨m1, q1, _, w1⟩ := DataW.trod_int Tryd.underlying5 g1
    obtain ⟨x1, b1, rfl⟩ := wf_u8 w1
    obtain ⟨m2, q2, _, w2⟩ := DataW.trod_int Tryd.underlying5 g2
    obtain ⟨x2, b2, rfl⟩ := wf_u8 w2
    obtain ⟨x3, q3, _, w3⟩ := DataW.trod_int Tryd.underlying3 g3
    have b3 := wf_i64 w3
    obtain ⟨m4, q4, _, w4⟩ := DataW.trod_int Tryd.underlying5 k0
    obtain ⟨x4, b4, rfl⟩ := wf_u8 w4
    obtain ⟨m5, q5, _, w5⟩ := DataW.trod_int Tryd.underlying35 k1
    obtain ⟨x5, b5, rfl⟩ := wf_u32 w5
    obtain ⟨m6, q6, _, w6⟩ := DataW.trod_int Tryd.underlying5 k2
    obtain ⟨x6, b6, rfl⟩ := wf_u8 w6
    obtain ⟨x7, q7, _, _⟩ := DataW.trod_string Tryd.underlying9 k3
    obtain ⟨x8, q8, _, _⟩ := DataW.trod_string Tryd.underlying9 k4
    obtain ⟨x9, q9, _, _⟩ := DataW.trod_string Tryd.underlying9 k5
    obtain ⟨m10, q10, _, w10⟩ := DataW.trod_int Tryd.underlying5 k6
    obtain ⟨x10, b10, rfl⟩ := wf_u8 w10
    simp only [List.cons.injEq, and_true] at q0 q1 q2 q3 q4 q5 q6 q7 q8 q9 q10
    subst q0 q1 q2 q3 q4 q5 q6 q7 q8 q9 q10
    refine ⟨⟨⟨x0, x1, x2, x3, x4, x5, x6, x7.data.toList, x8.data.toList, x9.data.toList, x10⟩, ⟨b0, b1, b2, b3, b4, b5, b6, b10⟩⟩, ?_⟩
    simp [stoC, stpC]
theorem stps_open {H : Type} {enc : TypeId × Value → H} {w : World} {base : Nat} {spare : Nat → Bool} {held : Bool} {a : Option Addr} {len cap : Nat} {d : DataW H} {pl : List MemPlace}
    (h : DataW.Trod enc Tryd.prog w base spare held 22 (.slice a len cap) d pl) : ∃ z : List StpO, SliceAt 11 stoC w a len z :=
  open_deep stoC 11 Tryd.underlying22 (by kernel_rfl) (by decide) (fun vs n y => stp_hx vs n y) h
abbrev StpsAt := SliceAt 11 stoC
theorem stps_row {w : World} {a : Option Addr} {len : Nat} {z : List StpO} (h : StpsAt w a len z) {i : Nat} (hi : i < len) : ∃ b o, a = some ⟨b, o, none⟩ ∧ b < w.heap.size ∧ w.rangeAt b (o + i * 11) (stpC (z.getD i default).val) := by
  have hl := h.hlen
  have hz : z[i]? = some (z.getD i default) := by simp [List.getD, List.getElem?_eq_getElem (show i < z.length by omega)]
  obtain ⟨b, o, h1, h2, h3⟩ := h.cells i _ hz
  exact ⟨b, o, h1, h2, fun j v hv => by rw [← h3 j v hv, Nat.add_assoc]⟩
end Go.Proofs.YtjjlodeiejobdaaDoor
