/- The law on regions that draw their order (RegR), its walk behind a name that nothing opens. No condition. -/
import Derived.Test.YtjjlodeiejobdaaDoorRegR
namespace Go.Proofs.YtjjlodeiejobdaaDoor.RegS
open Go RegR
section
variable {P : Program} {ops : Array Oper} {Q : Exit → Act → World → Prop}
structure Can (P : Program) (ops : Array Oper) (Q : Exit → Act → World → Prop) (l : List (Oper × Nat)) (R : World → Prop) (a : Act) (w : World) : Prop where
  out : wpCan P ops Q l R a w
theorem wp_region (R : World → Prop) (σ : List (Nat × Nat)) {id : Nat} {a : Act} {w : World} {l : List Oper} (hm : P.follows .mixedOrders = true)
    (hB : (Region.noSelect l.toArray && canB (barOf σ) .any l.toArray σ (Array.replicate l.length false) && σ.all (fun p => decide (p.1 < l.length)) && (σ.length == l.length)) = true)
    (hQ : ∀ c a d v w, Q (.panic c) (Act.put a d v) w → Q (.panic c) a w)
    (hR : R { w with drawn := w.drawn + 1 })
    (h : Can P l.toArray Q (pick l σ) R a { w with drawn := w.drawn + 1 }) : (Code.region id l.toArray true).wp P Q a w := wp_region_can R σ hm hB hQ hR h.out
/-- An operation that only reads. -/
theorem reads {R : World → Prop} {a : Act} {w : World} {o : Oper} {r : List (Oper × Nat)}
    (h : ∀ K : Act → Prop, (∀ a, Can P ops Q r R a w → K a) → if Region.wanted o (yielded ops a.tmps) then ∃ v, (∀ x, R x → (execOp a.eval o).run P x = .ok (.value v) x) ∧ K (a.put o.dst v) else K (a.put o.dst undef)) :
    Can P ops Q ((o, 0) :: r) R a w := ⟨can_reads (fun K hK => h K (fun a hc => hK a hc.out))⟩
/-- An operation that may turn the world, within R. -/
theorem turns {R : World → Prop} {a : Act} {w : World} {o : Oper} {r : List (Oper × Nat)}
    (h : ∀ (K : Act → World → Prop) (K0 : Act → Prop), (∀ a w, R w → Can P ops Q r R a w → K a w) → (∀ a, Can P ops Q r R a w → K0 a) →
      if Region.wanted o (yielded ops a.tmps) then o.wp P a w K Q else K0 (a.put o.dst undef)) :
    Can P ops Q ((o, 1) :: r) R a w := ⟨can_turns (fun K K0 hK hK0 => h K K0 (fun a w h1 h2 => hK a w h1 h2.out) (fun a h1 => hK0 a h1.out))⟩
/-- An operation that may turn the world, and that waits for all that came before it. -/
theorem frees {R : World → Prop} {a : Act} {w : World} {o : Oper} {r : List (Oper × Nat)}
    (h : ∀ (K : Act → World → Prop) (K0 : Act → Prop), (∀ a w, Can P ops Q r (fun x => x = w) a w → K a w) → (∀ a, Can P ops Q r R a w → K0 a) →
      if Region.wanted o (yielded ops a.tmps) then o.wp P a w K Q else K0 (a.put o.dst undef)) :
    Can P ops Q ((o, 3) :: r) R a w := ⟨can_frees (fun K K0 hK hK0 => h K K0 (fun a w h1 => hK a w h1.out) (fun a h1 => hK0 a h1.out))⟩
/-- The same, where no operation stands over it. -/
theorem free {R : World → Prop} {a : Act} {w : World} {o : Oper} {r : List (Oper × Nat)} (hg : o.guard = none)
    (h : ∀ K : Act → World → Prop, (∀ a w, Can P ops Q r (fun x => x = w) a w → K a w) → o.wp P a w K Q) : Can P ops Q ((o, 3) :: r) R a w :=
  frees (fun K _ hK _ => by rw [if_pos (by simp [Region.wanted, hg])]; exact h K hK)
theorem turn {R : World → Prop} {a : Act} {w : World} {o : Oper} {r : List (Oper × Nat)} (hg : o.guard = none)
    (h : ∀ K : Act → World → Prop, (∀ a w, R w → Can P ops Q r R a w → K a w) → o.wp P a w K Q) : Can P ops Q ((o, 1) :: r) R a w :=
  turns (fun K _ hK _ => by rw [if_pos (by simp [Region.wanted, hg])]; exact h K hK)
/-- The last operation of all. -/
theorem last {R : World → Prop} {a : Act} {w : World} {o : Oper} {r : List (Oper × Nat)}
    (h : ∀ K : Act → World → Prop, (∀ a w, Q .normal a w → K a w) → if Region.wanted o (yielded ops a.tmps) then o.wp P a w K Q else K (a.put o.dst undef) w) :
    Can P ops Q ((o, 2) :: r) R a w := ⟨can_last h⟩
theorem nil {R : World → Prop} {a : Act} {w : World} (h : Q .normal a w) : Can P ops Q [] R a w := ⟨can_nil h⟩
end
end Go.Proofs.YtjjlodeiejobdaaDoor.RegS
