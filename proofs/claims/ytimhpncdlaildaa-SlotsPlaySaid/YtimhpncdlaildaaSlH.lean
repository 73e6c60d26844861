/- The acts of the laws on a row: opened; great. No condition. -/
import Derived.Test.YtimhpncdlaildaaSlG
import Derived.Test.YtimhpncdlaildaaOpen
import Derived.Deep.DeepCutAuto
namespace Go.Proofs.Ytimhpncdlaildaa
open Go.RowKit

structure SAct where
  act : BitVec 8
  slot : BitVec 64
  val : ByteArray
instance : Inhabited SAct := ⟨⟨0, 0, ByteArray.empty⟩⟩
def actCells (x : SAct) : List Value := [.int .u8 (x.act.toNat : Int), .int .u64 (x.slot.toNat : Int), .string x.val]
abbrev ActsAt := SliceAt 3 actCells

theorem sl_u64 {n : Int} (h : (Lit.int .u64 n).wf = true) : ∃ x : BitVec 64, n = (x.toNat : Int) := by
  have h' : 0 ≤ n ∧ n ≤ 18446744073709551615 := by simpa [Lit.wf, IntKind.min, IntKind.max, IntKind.signed, IntKind.bits] using h
  exact ⟨BitVec.ofInt 64 n, by simp only [BitVec.toNat_ofInt]; omega⟩
theorem sl_u8 {n : Int} (h : (Lit.int .u8 n).wf = true) : ∃ x : BitVec 8, n = (x.toNat : Int) := by
  have h' : 0 ≤ n ∧ n ≤ 255 := by simpa [Lit.wf, IntKind.min, IntKind.max, IntKind.signed, IntKind.bits] using h
  exact ⟨BitVec.ofInt 8 n, by simp only [BitVec.toNat_ofInt]; omega⟩

theorem acts_open {H : Type} {enc : TypeId × Value → H} {w : World} {base : Nat} {spare : Nat → Bool} {held : Bool} {a : Option Addr} {len cap : Nat} {d : DataW H} {pl : List MemPlace}
    (h : DataW.Trod enc Try.prog w base spare held 22 (.slice a len cap) d pl) : ∃ z : List SAct, ActsAt w a len z := by
  refine open_rows actCells Try.underlying22 Try.underlying31 (by kernel_rfl) (by kernel_rfl) (by decide) ?_ h
  intro vs hl hf
  obtain ⟨v0, y0, n0, e0, t0⟩ := hf 0 _ rfl
  obtain ⟨v1, y1, n1, e1, t1⟩ := hf 1 _ rfl
  obtain ⟨v2, y2, n2, e2, t2⟩ := hf 2 _ rfl
  obtain ⟨m0, q0, _, f0⟩ := DataW.trod_int Try.underlying5 t0
  obtain ⟨m1, q1, _, f1⟩ := DataW.trod_int Try.underlying29 t1
  obtain ⟨m2, q2, _, _⟩ := DataW.trod_string Try.underlying9 t2
  obtain ⟨x0, rfl⟩ := sl_u8 f0
  obtain ⟨x1, rfl⟩ := sl_u64 f1
  simp only [List.cons.injEq, and_true] at q0 q1 q2
  subst q0 q1 q2
  refine ⟨⟨x0, x1, m2⟩, ?_⟩
  match vs, hl with
  | [a0, a1, a2], _ =>
    simp only [List.getElem?_cons_zero, List.getElem?_cons_succ, Option.some.injEq] at e0 e1 e2
    rw [e0, e1, e2]
    rfl

/-- What great tells. -/
def greatS (z : List SAct) : Bool := decide (200 < z.length) || z.any fun x => decide (100 < x.val.size)

theorem acts_cells {w : World} {a : Option Addr} {len : Nat} {z : List SAct} (h : ActsAt w a len z) {i : Nat} (hi : i < len) :
    ∃ b o, a = some ⟨b, o, none⟩ ∧ b < w.heap.size ∧ w.cell? ⟨b, o + i * 3, none⟩ = some (.int .u8 ((z.getD i default).act.toNat : Int)) ∧
      w.cell? ⟨b, o + i * 3 + 1, none⟩ = some (.int .u64 ((z.getD i default).slot.toNat : Int)) ∧ w.cell? ⟨b, o + i * 3 + 2, none⟩ = some (.string (z.getD i default).val) := by
  have hl := h.hlen
  have hz : z[i]? = some (z.getD i default) := by simp [List.getD, List.getElem?_eq_getElem (show i < z.length by omega)]
  obtain ⟨b, o, h1, h2, h3⟩ := h.cells i _ hz
  exact ⟨b, o, h1, h2, h3 0 _ rfl, h3 1 _ rfl, h3 2 _ rfl⟩

set_option maxHeartbeats 1000000 in
theorem great_any (a : Option Addr) (len cap : Nat) (z : List SAct) (w : World) (h : ActsAt w a len z) :
    Calls Try.prog 16 #[.slice a len cap] w fun e w' => e = .returned (.bool (greatS z)) ∧ w = w' := by
  have hl := h.hlen
  have hm := h.hmax
  unfold maxLen at hm
  by_cases hbig : 200 < len
  · have hg : greatS z = true := by simp [greatS, hl, hbig]
    have hbig' : (200 : Int) < (len : Int) := by omega
    have H := Lib.hid h; clear h
    have Hg := Lib.hid hg; clear hg
    clear hl
    go_enter Try.func16, Try.ntmps16
    go_wp2_with fail
    go_ret
    exact ⟨by rw [Hg.out]; rfl, rfl⟩
  · have hbig' : ¬ (200 : Int) < (len : Int) := by omega
    have Hl := Lib.hid hl; clear hl
    have H := Lib.hid h; clear h
    go_enter Try.func16, Try.ntmps16
    go_wp2_with fail
    go_loopw [3] (fun s3 wr => wr = w ∧ ∃ i : Nat, i ≤ len ∧ s3 = .int .i64 (i : Int) ∧ ∀ j, j < i → (z.getD j default).val.size ≤ 100) (fun s3 _ => len - (intOf s3).toNat)
    case atStart => exact ⟨rfl, 0, by omega, rfl, by omega⟩
    case round =>
      obtain ⟨rfl, i, hi, rfl, hall⟩ := hrel
      by_cases hlt : i < len
      · have hlt' : (i : Int) < (len : Int) := by omega
        obtain ⟨b, o, rfl, _, c0, c1, c2⟩ := acts_cells H.out hlt
        have hgt : (z.getD i default).val.size > 100 → greatS z = true := by
          intro hg
          have hm' : z.getD i default ∈ z := by
            have := Hl.out
            simp only [List.getD, List.getElem?_eq_getElem (show i < z.length by omega), Option.getD_some]
            exact List.getElem_mem _
          simp only [greatS, Bool.or_eq_true, List.any_eq_true, decide_eq_true_eq]
          exact .inr ⟨_, hm', hg⟩
        have Hgt := Lib.hid hgt; clear hgt
        clear c0 c1
        have Hall := Lib.hid hall; clear hall
        have hsize : IntKind.i64.wrap ((i : Int) + 1) = ((i + 1 : Nat) : Int) := by rw [IntKind.wrap_i64] <;> omega
        generalize hv : (z.getD i default).val = v at *
        have Hv := Lib.hid hv; clear hv
        by_cases hg : 100 < v.size
        · have hg' : (100 : Int) < (v.size : Int) := by omega
          go_wp2_with fail
          go_ret
          exact ⟨by rw [Hgt.out hg]; rfl, rfl⟩
        · have hg' : ¬ (100 : Int) < (v.size : Int) := by omega
          go_wp2_with fail
          go_roundw
          case rel =>
            refine ⟨trivial, i + 1, by omega, rfl, fun j hj => ?_⟩
            by_cases e : j = i
            · subst e; rw [Hv.out]; omega
            · exact Hall.out j (by omega)
          case measure => simp [intOf]; omega
      · have hlt' : ¬ (i : Int) < (len : Int) := by omega
        have hg : greatS z = false := by
          have hl := Hl.out
          simp only [greatS, Bool.or_eq_false_iff, decide_eq_false_iff_not, List.any_eq_false]
          refine ⟨by omega, fun x hx => ?_⟩
          obtain ⟨j, hj, rfl⟩ := List.getElem_of_mem hx
          have := hall j (by omega)
          rw [List.getD, List.getElem?_eq_getElem hj] at this
          simpa using this
        have Hg := Lib.hid hg; clear hg hall
        go_wp2_with fail
        go_ret
        exact ⟨by rw [Hg.out]; rfl, rfl⟩
end Go.Proofs.Ytimhpncdlaildaa
