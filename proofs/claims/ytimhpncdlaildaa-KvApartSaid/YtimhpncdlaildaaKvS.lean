/- The state of keys: a command, opened; KvApart in the form of its row. No condition. -/
import Derived.Test.YtimhpncdlaildaaKvR
import Derived.ChangeArms
import Derived.Deep.Slices
import Derived.Deep.Fields
import Derived.WideShapes
namespace Go.Proofs.Ytimhpncdlaildaa
open Go.ChangeShapes Go.WideShapes Go.Deep Go.RowKit

section
variable {H : Type} {enc : TypeId × Value → H} {P : Program} {w : World} {base : Nat} {spare : Nat → Bool} {held : Bool}
theorem open_agg {α : Type} (toCells : α → List Value) {e : TypeId} {fs : Array Field} {cs : Array Value} {d : DataW H} {pl : List MemPlace} (he : P.underlying e = some (.struct fs))
    (hone : oneCellFields P fs = true) (hsz : cs.size = fs.size)
    (hx : ∀ vs : List Value, vs.length = fs.size → (∀ (j : Nat) (f : Field), fs[j]? = some f → ∃ (v : Value) (y : DataW H × List MemPlace) (n : Nat), vs[j]? = some v ∧ DataW.trod enc P w base spare held n f.type [v] = some y) → ∃ x : α, vs = toCells x)
    (h : DataW.Trod enc P w base spare held e (.agg cs) d pl) : ∃ x : α, cs = (toCells x).toArray := by
  obtain ⟨m, hm⟩ := h
  have hm' : DataW.trod enc P w base spare held m e cs.toList = some (d, pl) := hm
  obtain ⟨ys, n', _, _, _, hyl, hf⟩ := DataW.trod_struct he hm'
  have hcl : cs.toList.length = fs.size := by simpa using hsz
  obtain ⟨x, hx⟩ := hx cs.toList hcl (fun j f hj => by
    have hjl : j < fs.size := (Array.getElem?_eq_some_iff.1 hj).1
    obtain ⟨ho, hk⟩ := hone_of hone j f hj
    have hq := hf j f hj
    rw [ho, hk, take1_drop _ _ undef (by omega)] at hq
    refine ⟨cs.toList.getD j undef, ys[j]'(by omega), n', ?_, ?_⟩
    · rw [List.getD, List.getElem?_eq_getElem (show j < cs.toList.length by omega)]; rfl
    · rw [hq, List.getElem?_eq_getElem (by omega)])
  exact ⟨x, by rw [← hx]⟩
end
set_option maxRecDepth 100000 in
theorem cmd_open {H : Type} {enc : TypeId × Value → H} {w : World} {base : Nat} {spare : Nat → Bool} {held : Bool} {v : Value} {d : DataW H} {pl : List MemPlace} {r : Reach} {ob : Nat}
    (hv : Value.okWide Try.prog w r ob 103 v) (h : DataW.Trod enc Try.prog w base spare held 103 v d pl) : ∃ c : CmdV, v = .agg (cmdCells c).toArray := by
  obtain ⟨cs, rfl, hsz⟩ := okWide_struct Try.underlying103 hv
  have h7 : cs.size = 7 := by rw [hsz]; kernel_rfl
  obtain ⟨c, hc⟩ : ∃ c : CmdV, cs = (cmdCells c).toArray := by
    refine open_agg cmdCells Try.underlying103 (by kernel_rfl) (by rw [h7]; rfl) ?_ h
    intro vs hl hf
    obtain ⟨v0, y0, n0, e0, t0⟩ := hf 0 _ rfl
    obtain ⟨v1, y1, n1, e1, t1⟩ := hf 1 _ rfl
    obtain ⟨v2, y2, n2, e2, t2⟩ := hf 2 _ rfl
    obtain ⟨v3, y3, n3, e3, t3⟩ := hf 3 _ rfl
    obtain ⟨v4, y4, n4, e4, t4⟩ := hf 4 _ rfl
    obtain ⟨v5, y5, n5, e5, t5⟩ := hf 5 _ rfl
    obtain ⟨v6, y6, n6, e6, t6⟩ := hf 6 _ rfl
    obtain ⟨m0, q0, _, f0⟩ := DataW.trod_int Try.underlying5 t0
    obtain ⟨m1, q1, _, f1⟩ := DataW.trod_int Try.underlying101 t1
    obtain ⟨m2, q2, _, f2⟩ := DataW.trod_int Try.underlying5 t2
    obtain ⟨m3, q3, _, _⟩ := DataW.trod_string Try.underlying9 t3
    obtain ⟨m4, q4, _, _⟩ := DataW.trod_string Try.underlying9 t4
    obtain ⟨m5, q5, _, _⟩ := DataW.trod_string Try.underlying9 t5
    obtain ⟨m6, q6, _, f6⟩ := DataW.trod_int Try.underlying5 t6
    obtain ⟨x0, rfl⟩ := tr_u8 f0
    obtain ⟨x1, rfl⟩ := tr_u32 f1
    obtain ⟨x2, rfl⟩ := tr_u8 f2
    obtain ⟨x6, rfl⟩ := tr_u8 f6
    simp only [List.cons.injEq, and_true] at q0 q1 q2 q3 q4 q5 q6
    subst q0 q1 q2 q3 q4 q5 q6
    refine ⟨⟨x0, x1, ⟨x2⟩, m3, m4, m5, x6⟩, ?_⟩
    match vs, hl with
    | [a0, a1, a2, a3, a4, a5, a6], _ =>
      simp only [List.getElem?_cons_zero, List.getElem?_cons_succ, Option.some.injEq] at e0 e1 e2 e3 e4 e5 e6
      rw [e0, e1, e2, e3, e4, e5, e6]
      rfl
  exact ⟨c, by rw [hc]⟩
end Go.Proofs.Ytimhpncdlaildaa
