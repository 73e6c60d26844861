/- Slices of one-cell elements, opened; TreeOne's arguments. No condition. -/
import Derived.Test.YtimhpncdlaildaaOpen
import Derived.Test.YtimhpncdlaildaaTrN
namespace Go.Proofs.Ytimhpncdlaildaa
open Go.ChangeShapes Go.WideShapes Go.Deep Go.RowKit

section
variable {H : Type} {enc : TypeId × Value → H} {P : Program} {w : World} {base : Nat} {spare : Nat → Bool} {held : Bool}
theorem open_ones {α : Type} [Inhabited α] (one : α → Value) {t e : TypeId} {a : Option Addr} {len cap : Nat} {d : DataW H} {pl : List MemPlace} (ht : P.underlying t = some (.slice e)) (hC : P.cellsOf e = 1)
    (hx : ∀ (v : Value) (y : DataW H × List MemPlace) (n : Nat), DataW.trod enc P w base spare held n e [v] = some y → ∃ x : α, v = one x)
    (h : DataW.Trod enc P w base spare held t (.slice a len cap) d pl) : ∃ z : List α, SliceAt 1 (fun x => [one x]) w a len z := by
  obtain ⟨m, hm⟩ := h
  rcases open_slice ht hm with ⟨h0, _⟩ | ⟨p, ln, cp, mm, n, D, Pl, hcs, hb, hl, hmx, hmm, _, hi⟩
  · have h0' : [Value.slice a len cap] = [Value.slice none 0 0] := h0
    simp only [List.cons.injEq, Value.slice.injEq, and_true] at h0'
    obtain ⟨rfl, rfl, rfl⟩ := h0'
    exact ⟨[], rfl, Nat.zero_le _, fun i x hx => by simp at hx⟩
  · have h0' : [Value.slice a len cap] = [Value.slice (some p) ln cp] := hcs
    simp only [List.cons.injEq, Value.slice.injEq, and_true] at h0'
    obtain ⟨rfl, rfl, rfl⟩ := h0'
    have hlm : len ≤ mm := by rw [hmm]; split <;> omega
    obtain ⟨g, hg⟩ := choose_lt (n := len) (p := fun i (x : α) => w.cells? base (p.add (i * 1)) 1 = some [one x]) (fun i hil => by
      obtain ⟨cs', h1, h2⟩ := hi i (by omega)
      rw [hC] at h1
      obtain ⟨_, hcl, _⟩ := World.cells?_some h1
      match cs', hcl with
      | [v], _ =>
        obtain ⟨x, rfl⟩ := hx v _ _ h2
        exact ⟨x, h1⟩)
    refine ⟨(List.range len).map g, by simp, by omega, fun i x hix => ?_⟩
    have hil : i < len := by
      have := (List.getElem?_eq_some_iff.1 hix).1
      simpa using this
    have hgx : g i = x := by simpa [hil] using hix
    have h1 := hg i hil
    rw [hgx] at h1
    obtain ⟨_, _, hcell⟩ := World.cells?_some h1
    obtain ⟨b, o, sp⟩ := p
    have g1 := hg 0 (by omega)
    obtain ⟨_, _, gcell⟩ := World.cells?_some g1
    have h00 := gcell 0 (by omega)
    simp only [List.getElem?_cons_zero] at h00
    have hspot : sp = none := by simpa [Addr.add] using World.cell?_spot h00
    subst hspot
    have hlt := World.block_lt_of_cell? _ _ h00
    refine ⟨b, o, rfl, ?_, fun j v hj => ?_⟩
    · simpa [Addr.add] using hlt
    · have hjl : j < 1 := by
        have := (List.getElem?_eq_some_iff.1 hj).1
        simpa using this
      have := hcell j hjl
      rw [add_add, hj] at this
      rw [← this, add_plain]
end
theorem ints_open {H : Type} {enc : TypeId × Value → H} {w : World} {base : Nat} {spare : Nat → Bool} {held : Bool} {a : Option Addr} {len cap : Nat} {d : DataW H} {pl : List MemPlace}
    (h : DataW.Trod enc Try.prog w base spare held 85 (.slice a len cap) d pl) : ∃ z : List Int, SliceAt 1 (fun n : Int => [Value.int .i64 n]) w a len z :=
  open_ones (fun n : Int => Value.int .i64 n) Try.underlying85 (by kernel_rfl) (fun v y n hv => by
    obtain ⟨m, q, _, _⟩ := DataW.trod_int Try.underlying3 hv
    simp only [List.cons.injEq, and_true] at q
    exact ⟨m, q⟩) h
theorem txts_open {H : Type} {enc : TypeId × Value → H} {w : World} {base : Nat} {spare : Nat → Bool} {held : Bool} {a : Option Addr} {len cap : Nat} {d : DataW H} {pl : List MemPlace}
    (h : DataW.Trod enc Try.prog w base spare held 86 (.slice a len cap) d pl) : ∃ z : List ByteArray, SliceAt 1 (fun s : ByteArray => [Value.string s]) w a len z :=
  open_ones (fun s : ByteArray => Value.string s) Try.underlying86 (by kernel_rfl) (fun v y n hv => by
    obtain ⟨m, q, _, _⟩ := DataW.trod_string Try.underlying9 hv
    simp only [List.cons.injEq, and_true] at q
    exact ⟨m, q⟩) h
theorem pairs_open {H : Type} {enc : TypeId × Value → H} {w : World} {base : Nat} {spare : Nat → Bool} {held : Bool} {a : Option Addr} {len cap : Nat} {d : DataW H} {pl : List MemPlace}
    (h : DataW.Trod enc Try.prog w base spare held 59 (.slice a len cap) d pl) : ∃ z : Prs, PairsAt w a len z := by
  refine open_rows pairCells Try.underlying59 Try.underlying70 (by kernel_rfl) (by kernel_rfl) (by decide) ?_ h
  intro vs hl hf
  obtain ⟨v0, y0, n0, e0, t0⟩ := hf 0 _ rfl
  obtain ⟨v1, y1, n1, e1, t1⟩ := hf 1 _ rfl
  obtain ⟨m0, q0, _, _⟩ := DataW.trod_string Try.underlying9 t0
  obtain ⟨m1, q1, _, _⟩ := DataW.trod_string Try.underlying9 t1
  simp only [List.cons.injEq, and_true] at q0 q1
  subst q0 q1
  refine ⟨(m0, m1), ?_⟩
  match vs, hl with
  | [a0, a1], _ =>
    simp only [List.getElem?_cons_zero, List.getElem?_cons_succ, Option.some.injEq] at e0 e1
    rw [e0, e1]
    rfl
end Go.Proofs.Ytimhpncdlaildaa
