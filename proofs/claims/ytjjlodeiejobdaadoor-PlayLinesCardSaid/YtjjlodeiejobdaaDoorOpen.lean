/- An argument that is a slice of structs of one-cell fields, opened to its cells, typed. Over any program. Condition: each field of the struct is one cell. -/
import Derived.WalkKit
import Derived.Deep.Slices
import Derived.Deep.Fields
import Derived.ChangeSame
import Derived.Below
namespace Go.Proofs.YtjjlodeiejobdaaDoor
open Go.ChangeShapes Go.WideShapes Go.Deep Go.RowKit
/-- The slice's elements are z; element i lies in k cells, which hold 'enc' of it. -/
structure SliceAt {α : Type} (k : Nat) (enc : α → List Value) (w : World) (a : Option Addr) (len : Nat) (z : List α) : Prop where
  hlen : z.length = len
  hmax : len ≤ maxLen
  cells : ∀ (i : Nat) (x : α), z[i]? = some x → ∃ b o, a = some ⟨b, o, none⟩ ∧ b < w.heap.size ∧ ∀ j v, (enc x)[j]? = some v → w.cell? ⟨b, o + (i * k + j), none⟩ = some v
theorem SliceAt.below {α : Type} {k : Nat} {enc : α → List Value} {w w' : World} {a : Option Addr} {len : Nat} {z : List α} (h : SliceAt k enc w a len z) (hb : Below w.heap.size w w') : SliceAt k enc w' a len z := by
  refine ⟨h.hlen, h.hmax, fun i x hi => ?_⟩
  obtain ⟨b, o, h1, h2, h3⟩ := h.cells i x hi
  refine ⟨b, o, h1, Nat.lt_of_lt_of_le h2 hb.size, fun j v hj => ?_⟩
  rw [← h3 j v hj]
  simp only [World.cell?, hb.block b h2]
section
variable {H : Type} {enc : TypeId × Value → H} {P : Program} {w : World} {base : Nat} {spare : Nat → Bool} {held : Bool}
theorem open_rows {α : Type} [Inhabited α] (toCells : α → List Value) {t e : TypeId} {fs : Array Field} {a : Option Addr} {len cap : Nat} {d : DataW H} {pl : List MemPlace} (ht : P.underlying t = some (.slice e)) (he : P.underlying e = some (.struct fs))
    (hone : oneCellFields P fs = true) (hC : P.cellsOf e = fs.size) (hpos : 0 < fs.size)
    (hx : ∀ vs : List Value, vs.length = fs.size → (∀ (j : Nat) (f : Field), fs[j]? = some f → ∃ (v : Value) (y : DataW H × List MemPlace) (n : Nat), vs[j]? = some v ∧ DataW.trod enc P w base spare held n f.type [v] = some y) → ∃ x : α, vs = toCells x)
    (h : DataW.Trod enc P w base spare held t (.slice a len cap) d pl) : ∃ z : List α, SliceAt fs.size toCells w a len z := by
  obtain ⟨m, hm⟩ := h
  rcases open_slice ht hm with ⟨h0, _⟩ | ⟨p, ln, cp, mm, n, D, Pl, hcs, hb, hl, hmx, hmm, _, hi⟩
  · have h0' : [Value.slice a len cap] = [Value.slice none 0 0] := h0
    simp only [List.cons.injEq, Value.slice.injEq, and_true] at h0'
    obtain ⟨rfl, rfl, rfl⟩ := h0'
    exact ⟨[], rfl, Nat.zero_le _, fun i x hx => by simp at hx⟩
  · have h0' : [Value.slice a len cap] = [Value.slice (some p) ln cp] := hcs
    simp only [List.cons.injEq, Value.slice.injEq, and_true] at h0'
    obtain ⟨rfl, rfl, rfl⟩ := h0'
    have hlm : len ≤ mm := by rw [hmm]; split <;> omega
    obtain ⟨g, hg⟩ := choose_lt (n := len) (p := fun i (x : α) => w.cells? base (p.add (i * fs.size)) fs.size = some (toCells x) ∧ (toCells x).length = fs.size) (fun i hil => by
      obtain ⟨cs', h1, h2⟩ := hi i (by omega)
      rw [hC] at h1
      obtain ⟨ys, n', _, _, hlen, hyl, hf⟩ := DataW.trod_struct he h2
      obtain ⟨_, hcl, _⟩ := World.cells?_some h1
      obtain ⟨x, rfl⟩ := hx cs' hcl (fun j f hj => by
        have hjl : j < fs.size := (Array.getElem?_eq_some_iff.1 hj).1
        obtain ⟨ho, hk⟩ := hone_of hone j f hj
        have hq := hf j f hj
        rw [ho, hk, take1_drop _ _ undef (by omega)] at hq
        refine ⟨cs'.getD j undef, ys[j]'(by omega), n', ?_, ?_⟩
        · simp [List.getD, List.getElem?_eq_getElem (show j < cs'.length by omega)]
        · rw [hq, List.getElem?_eq_getElem (by omega)])
      exact ⟨x, h1, hcl⟩)
    refine ⟨(List.range len).map g, by simp, by omega, fun i x hix => ?_⟩
    have hil : i < len := by
      have := (List.getElem?_eq_some_iff.1 hix).1
      simpa using this
    have hgx : g i = x := by simpa [hil] using hix
    obtain ⟨h1, h2⟩ := hg i hil
    rw [hgx] at h1 h2
    obtain ⟨_, _, hcell⟩ := World.cells?_some h1
    obtain ⟨b, o, sp⟩ := p
    obtain ⟨g1, g2⟩ := hg 0 (by omega)
    obtain ⟨_, _, gcell⟩ := World.cells?_some g1
    have h00 := gcell 0 hpos
    rw [List.getElem?_eq_getElem (by omega)] at h00
    have hspot : sp = none := by simpa [Addr.add] using World.cell?_spot h00
    subst hspot
    have hlt := World.block_lt_of_cell? _ _ h00
    refine ⟨b, o, rfl, ?_, fun j v hj => ?_⟩
    · simpa [Addr.add] using hlt
    · have hjl : j < fs.size := by
        have := (List.getElem?_eq_some_iff.1 hj).1
        omega
      have := hcell j hjl
      rw [add_add, hj] at this
      rw [← this, add_plain]
end
end Go.Proofs.YtjjlodeiejobdaaDoor
