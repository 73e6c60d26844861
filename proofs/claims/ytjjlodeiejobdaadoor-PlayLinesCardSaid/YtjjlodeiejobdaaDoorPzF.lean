/- Play: a row of steps, opened as an argument; the law PlayBack in its row's form. Condition: as each theorem says. -/
import Derived.Test.YtjjlodeiejobdaaDoorPzC
namespace Go.Proofs.YtjjlodeiejobdaaDoor
open Go.RowKit Go.Shelf Go.Deep
/-- A row of steps as an argument holds it. -/
structure StpsIn (w : World) (a : Option Addr) (len cap : Nat) (z : List StpV) : Prop where
  at_ : SlAt w a len z
  ok : ∀ s ∈ z, s.Ok
  cap : len ≤ cap
theorem steps_open {H : Type} {enc : TypeId × Value → H} {w : World} {base : Nat} {spare : Nat → Bool} {held : Bool} {a : Option Addr} {len cap : Nat} {d : DataW H} {pl : List MemPlace}
    (h : DataW.Trod enc Tryd.prog w base spare held 22 (.slice a len cap) d pl) : ∃ z : List StpV, StpsIn w a len cap z := by
  obtain ⟨z, hz⟩ := stps_open h
  refine ⟨z.map (·.val), sl_map hz, fun s hs => ?_, ?_⟩
  · obtain ⟨y, _, rfl⟩ := List.mem_map.1 hs
    exact y.2
  · obtain ⟨n, hn⟩ := h
    rcases open_slice Tryd.underlying22 hn with ⟨h0, _⟩ | ⟨_, len', cap', _, _, _, _, h0, _, hl, _⟩
    · simp only [Value.cells, List.cons.injEq, Value.slice.injEq, and_true] at h0
      omega
    · simp only [Value.cells, List.cons.injEq, Value.slice.injEq, and_true] at h0
      omega
theorem back_row (a : Option Addr) (len cap : Nat) (z : List StpV) (x : ByteArray) {w : World} (h : StpsIn w a len cap z) (_hx : x.size ≤ maxLen) (hv : PV w) :
    Calls Tryd.prog 5 #[.slice a len cap, .string x] w fun e w' => e = .returned (.bool true) ∧ Below w.heap.size w w' :=
  back_any a len cap z x h.ok h.cap w h.at_ hv
end Go.Proofs.YtjjlodeiejobdaaDoor
