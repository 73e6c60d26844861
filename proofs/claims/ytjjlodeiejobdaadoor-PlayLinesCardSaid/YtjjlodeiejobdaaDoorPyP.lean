/- Play: small, number, itself, and ParseUint of two bytes as it is called. Condition: the library's variables hold what the program's text lays. -/
import Derived.Test.YtjjlodeiejobdaaDoorPyO
import Derived.BigGuard
namespace Go.Proofs.YtjjlodeiejobdaaDoor
open Go.RowKit Go.Shelf
theorem p16_any (a b : UInt8) (w : World) (hv : PV w) :
    Calls Tryd.prog 47 #[.string ⟨#[a, b]⟩, .int .i64 16, .int .i64 8] w (UintR (hexAcc [a, b]) w) := by
  have H := Lib.hid (ip16_any a b w)
  obtain ⟨tp, p, hv1⟩ := hv.syn
  have hvc : w.cell? ⟨nmRen.g 15, 0, none⟩ = some (.iface tp p) := by have h0 := World.var?_cell lay_pint.m15 hv1 0; simpa using h0
  have Hte := Lib.hid (fun (y : World) (hy : Below w.heap.size w y) => (show Calls Tryd.prog 62 #[.string ⟨#[80, 97, 114, 115, 101, 85, 105, 110, 116]⟩, .string ⟨#[a, b]⟩, .int .i64 16, .int .i64 8, .iface 106 (.int .i64 2)] y (fun e w' => ∃ N, e = .returned (.iface 108 (.pointer (some ⟨N, 0, none⟩))) ∧ y.heap.size ≤ N ∧ w'.heap[N]? = some (.cells #[.string ⟨#[80, 97, 114, 115, 101, 85, 105, 110, 116]⟩, .string ⟨#[a, b]⟩, .iface tp p] 118 (0, 0)) ∧ Below y.heap.size y w') from
    Any.strconv_toError_syntax lay_toerr ⟨#[80, 97, 114, 115, 101, 85, 105, 110, 116]⟩ ⟨#[a, b]⟩ 16 8 (.iface tp p) y (by show 2 ≤ _; decide) ((World.cell?_of_block (hy.block _ (cell_lt hvc))).trans hvc) (.inr ⟨tp, p, rfl⟩)))
  clear hvc hv1 hv
  go_enter Tryd.func47, Tryd.ntmps47
  cases hA : hexAcc [a, b] with
  | some n =>
    have HA := Lib.hid hA
    clear hA
    go_wp2_with (go_at_call 61; refine H.out.mono ?_; intro e w1 h; obtain ⟨hb, h2⟩ := h; rw [HA.out] at h2; subst h2; have HB := Lib.hid hb; clear hb)
    go_ret2
    exact ⟨HB.out, rfl⟩
  | none =>
    have HA := Lib.hid hA
    clear hA
    go_wp2_with (first
      | (go_at_call 61; refine H.out.mono ?_; intro e w1 h; obtain ⟨hb, h2⟩ := h; rw [HA.out] at h2; subst h2; have HB := Lib.hid hb; clear hb)
      | (go_at_call 62; refine (Hte.out _ HB.out).mono ?_; rintro e w2 ⟨N, rfl, -, -, hb2⟩; have HB2 := Lib.hid hb2; clear hb2))
    go_ret2
    exact ⟨HB.out.trans (HB2.out.mono HB.out.size), 0, _, _, by decide, rfl⟩
theorem bs_beq (a b : ByteArray) : (a.toList == b.toList) = decide (a.data.toList = b.data.toList) := by
  rw [Bool.eq_iff_iff, beq_iff_eq, decide_eq_true_iff, ByteArray.toList_eq, ByteArray.toList_eq]
/-- What a function that reads a form tells. -/
def SmallR (R : Option Nat) (w : World) (e : Ending) (w' : World) : Prop := Below w.heap.size w w' ∧ ∃ x : Nat, x < 256 ∧ e = .returned (.tuple #[.int .u8 (x : Int), .bool R.isSome]) ∧ ∀ v, R = some v → x = v
def NumR (R : Option Int) (w : World) (e : Ending) (w' : World) : Prop := Below w.heap.size w w' ∧ ∃ x : Int, (-9223372036854775808 ≤ x ∧ x ≤ 9223372036854775807) ∧ e = .returned (.tuple #[.int .i64 x, .bool R.isSome]) ∧ ∀ v, R = some v → x = v
set_option maxRecDepth 100000 in
theorem small_any (s : ByteArray) (hs : s.size ≤ 281474976710656) (w : World) (hv : PV w) :
    Calls Tryd.prog 30 #[.string s] w (SmallR (smallL s.data.toList) w) := by
  have Hp := Lib.hid (puint_any s hs w hv)
  have Hf := Lib.hid (fun (u : Nat) (hu : u < 18446744073709551616) (y : World) (hy : Below w.heap.size w y) => fmtuint_any u hu y (hv.below hy))
  have hsm : smallL s.data.toList = (okOf (Lib.parseUintB 8 s.data.toList)).bind (fun u => if Lib.decDigits u = s.data.toList then some u else none) := by
    unfold smallL
    cases Lib.parseUintB 8 s.data.toList <;> rfl
  rw [hsm]
  have hlt : ∀ u, okOf (Lib.parseUintB 8 s.data.toList) = some u → u < 256 := fun u h => by
    cases hq : Lib.parseUintB 8 s.data.toList with
    | ok v => rw [hq] at h; cases h; have := Lib.parseUintB_le hq; omega
    | _ => rw [hq] at h; cases h
  clear hsm hv
  generalize okOf (Lib.parseUintB 8 s.data.toList) = R at *
  cases R with
  | none =>
    clear hlt
    go_enter Tryd.func30, Tryd.ntmps30
    go_wp2_with (go_at_call 47; refine Hp.out.mono ?_; rintro e w1 ⟨hb, x, t, p, hx, rfl⟩; have HB := Lib.hid hb; have HX := Lib.hid hx; have hw8 : IntKind.u8.wrap (x : Int) = (x : Int) := (by rw [IntKind.wrap_u8']; omega); clear hb hx)
    go_ret2
    exact ⟨HB.out, x, HX.out, by first | rfl | (rw [hw8]; rfl), fun v h => by cases h⟩
  | some u =>
    have hu := hlt u rfl
    have HU := Lib.hid hu
    have hw8 : IntKind.u8.wrap (u : Int) = (u : Int) := by rw [IntKind.wrap_u8']; omega
    clear hlt hu
    go_enter Tryd.func30, Tryd.ntmps30
    go_wp2_with (first
      | (go_at_call 47; refine Hp.out.mono ?_; rintro e w1 ⟨hb, rfl⟩; have HB := Lib.hid hb; clear hb)
      | (go_at_call 48; refine (Hf.out u (by have := HU.out; omega) _ HB.out).mono ?_; rintro e w2 ⟨rfl, hb2⟩; have HB2 := Lib.hid hb2; clear hb2))
    go_ret2
    refine ⟨HB.out.trans (HB2.out.mono HB.out.size), u, HU.out, ?_, ?_⟩
    · by_cases h : Lib.decDigits u = s.data.toList
      · simp [h, ByteArray.toList_eq]
      · simp [h, ByteArray.toList_eq]
    · intro v h
      simp only [Option.bind_some] at h
      split at h
      · cases h; rfl
      · cases h
set_option maxRecDepth 100000 in
theorem number_any (s : ByteArray) (hs : s.size ≤ 281474976710656) (w : World) (hv : PV w) :
    Calls Tryd.prog 31 #[.string s] w (NumR (numL s.data.toList) w) := by
  have Hp := Lib.hid (pint_any s hs w hv)
  have Hf := Lib.hid (fun (u : Int) (h0 : -9223372036854775808 ≤ u) (h1 : u ≤ 9223372036854775807) (y : World) (hy : Below w.heap.size w y) => fmtint_any u h0 h1 y (hv.below hy))
  have hsm : numL s.data.toList = (okOf (Lib.parseIntB 64 s.data.toList)).bind (fun u => if Lib.itoa u = s.data.toList then some u else none) := by
    unfold numL
    cases Lib.parseIntB 64 s.data.toList <;> rfl
  rw [hsm]
  have hlt : ∀ u, okOf (Lib.parseIntB 64 s.data.toList) = some u → -9223372036854775808 ≤ u ∧ u ≤ 9223372036854775807 := fun u h => by
    cases hq : Lib.parseIntB 64 s.data.toList with
    | ok v => rw [hq] at h; cases h; have := Lib.parseIntB_bounds hq; omega
    | _ => rw [hq] at h; cases h
  clear hsm hv
  generalize okOf (Lib.parseIntB 64 s.data.toList) = R at *
  cases R with
  | none =>
    clear hlt
    go_enter Tryd.func31, Tryd.ntmps31
    go_wp2_with (go_at_call 49; refine Hp.out.mono ?_; rintro e w1 ⟨hb, x, t, p, hx, rfl⟩; have HB := Lib.hid hb; have HX := Lib.hid hx; clear hb hx)
    go_ret2
    exact ⟨HB.out, x, HX.out, rfl, fun v h => by cases h⟩
  | some u =>
    have hu := hlt u rfl
    have HU := Lib.hid hu
    clear hlt hu
    go_enter Tryd.func31, Tryd.ntmps31
    go_wp2_with (first
      | (go_at_call 49; refine Hp.out.mono ?_; rintro e w1 ⟨hb, rfl⟩; have HB := Lib.hid hb; clear hb)
      | (go_at_call 50; refine (Hf.out u HU.out.1 HU.out.2 _ HB.out).mono ?_; rintro e w2 ⟨rfl, hb2⟩; have HB2 := Lib.hid hb2; clear hb2))
    go_ret2
    refine ⟨HB.out.trans (HB2.out.mono HB.out.size), u, HU.out, ?_, ?_⟩
    · by_cases h : Lib.itoa u = s.data.toList
      · simp [h, ByteArray.toList_eq]
      · simp [h, ByteArray.toList_eq]
    · intro v h
      simp only [Option.bind_some] at h
      split at h
      · cases h; rfl
      · cases h
set_option maxRecDepth 100000 in
theorem itself_any (c : UInt8) (w : World) : Calls Tryd.prog 56 #[.int .u8 (c.toNat : Int)] w fun e w' => e = .returned (.bool (itsB c)) ∧ w = w' := by
  unfold itsB
  generalize c.toNat = n
  go_enter Tryd.func56, Tryd.ntmps56
  go_wp2
  all_goals (go_ret; refine ⟨congrArg (fun b => Ending.returned (.bool b)) ?_, rfl⟩; rw [Bool.eq_iff_iff]; simp; omega)
end Go.Proofs.YtjjlodeiejobdaaDoor
