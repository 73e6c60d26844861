/- Play: a step's cells; read's inner function. Condition: the step and the word lie there. -/
import Derived.Test.YtjjlodeiejobdaaDoorPyU
namespace Go.Proofs.YtjjlodeiejobdaaDoor
open Go.RowKit Go.Shelf
def stpC (s : StpV) : List Value := [.int .u8 (s.d : Int), .int .u8 (s.a : Int), .int .u8 (s.b : Int), .int .i64 s.k, .int .u8 (s.cl : Int), .int .u32 (s.sq : Int), .int .u8 (s.kd : Int), .string ⟨s.y.toArray⟩, .string ⟨s.o.toArray⟩, .string ⟨s.n.toArray⟩, .int .u8 (s.st : Int)]
def stpV (s : StpV) : Value := .agg (stpC s).toArray
theorem stpC_one (s : StpV) : ∀ u ∈ stpC s, u.oneCell' = true := by simp [stpC, Value.oneCell']
theorem stpC_size (s : StpV) : (Tryd.prog.info? 39).map (·.size) = some (stpC s).length := (by kernel_rfl : (Tryd.prog.info? 39).map (·.size) = some 11)
theorem stp11_size (a b c d e f g h i j k : Value) : (Tryd.prog.info? 39).map (·.size) = some [a, b, c, d, e, f, g, h, i, j, k].length := (by kernel_rfl : (Tryd.prog.info? 39).map (·.size) = some 11)
def StpAt (w : World) (g : Nat) (s : StpV) : Prop := w.heap[g]? = some (.cells (stpC s).toArray 39 (0, 0))
theorem StpAt.below {w w' : World} {g : Nat} {s : StpV} (h : StpAt w g s) (hb : Below w.heap.size w w') : StpAt w' g s := (hb.block g (Array.getElem?_eq_some_iff.1 h).1).trans h
theorem StpAt.lt {w : World} {g : Nat} {s : StpV} (h : StpAt w g s) : g < w.heap.size := (Array.getElem?_eq_some_iff.1 h).1
theorem stp_loadVar {y : World} {g : Nat} {s : StpV} (h : StpAt y g s) : (loadVar 39 ⟨g, 0, none⟩).run Tryd.prog y = .ok (stpV s) y := run_loadVar_mid y g 0 39 (stpC s) _ (range_row h) Tryd.underlying39 rfl (stpC_size s)
theorem StpAt.cells {w : World} {g : Nat} {s : StpV} (h : StpAt w g s) : w.cell? ⟨g, 0, none⟩ = some (.int .u8 (s.d : Int)) ∧ w.cell? ⟨g, 1, none⟩ = some (.int .u8 (s.a : Int)) ∧ w.cell? ⟨g, 2, none⟩ = some (.int .u8 (s.b : Int)) ∧ w.cell? ⟨g, 3, none⟩ = some (.int .i64 s.k) ∧ w.cell? ⟨g, 6, none⟩ = some (.int .u8 (s.kd : Int)) ∧ w.cell? ⟨g, 7, none⟩ = some (.string ⟨s.y.toArray⟩) ∧ w.cell? ⟨g, 8, none⟩ = some (.string ⟨s.o.toArray⟩) ∧ w.cell? ⟨g, 9, none⟩ = some (.string ⟨s.n.toArray⟩) ∧ w.cell? ⟨g, 10, none⟩ = some (.int .u8 (s.st : Int)) := ⟨cell_of_row _ _ _ _ _ _ h, cell_of_row _ _ _ _ _ _ h, cell_of_row _ _ _ _ _ _ h, cell_of_row _ _ _ _ _ _ h, cell_of_row _ _ _ _ _ _ h, cell_of_row _ _ _ _ _ _ h, cell_of_row _ _ _ _ _ _ h, cell_of_row _ _ _ _ _ _ h, cell_of_row _ _ _ _ _ _ h⟩
theorem StpAt.set {w : World} {g : Nat} {s : StpV} (h : StpAt w g s) (s' : StpV) (i : Nat) (v : Value) (e : (stpC s).toArray.setIfInBounds i v = (stpC s').toArray) : StpAt (w.setCell ⟨g, i, none⟩ v) g s' := by
  have q := heap_setCell_same w g i (stpC s).toArray 39 v h
  rw [e] at q
  exact q
theorem thaw_row {w : World} {p : Nat} {cs : Array Value} {t : TypeId} (j : Nat) (h : w.heap[p]? = some (.cells cs t (0, 0))) : w.frozen? ⟨p, j, none⟩ = false := by
  simp [World.frozen?, h]
theorem but_cell {w : World} {g i : Nat} (v : Value) : ButOne g w (w.setCell ⟨g, i, none⟩ v) := ⟨rfl, rfl, rfl, by simp, fun k _ hk => Below.heap_setCell _ _ _ _ hk⟩
theorem ButOne.trans {g : Nat} {a b c : World} (h : ButOne g a b) (k : ButOne g b c) : ButOne g a c := ⟨k.os.trans h.os, k.tape.trans h.tape, k.output.trans h.output, Nat.le_trans h.size k.size, fun i hi h1 => (k.block i (Nat.lt_of_lt_of_le hi h.size) h1).trans (h.block i hi h1)⟩
theorem ButOne.of {g : Nat} {w y : World} (h : Below w.heap.size w y) : ButOne g w y := ⟨h.os, h.tape, h.output, h.size, fun k hk _ => h.block k hk⟩
theorem ButOne.below {g m : Nat} {w0 w w' : World} (h : ButOne g w w') (h0 : Below m w0 w) (hm : m ≤ w.heap.size) (hg : m ≤ g) : Below m w0 w' := h0.trans ⟨h.os, h.tape, h.output, h.size, fun k hk => h.block k (by omega) (by omega)⟩
/-- What read's inner function tells. -/
def TakeR (R : Option StpV) (g : Nat) (w : World) (e : Ending) (w' : World) : Prop := e = .returned (.bool R.isSome) ∧ ButOne g w w' ∧ ∃ s', StpAt w' g s' ∧ ∀ s1, R = some s1 → s' = s1
theorem TakeR.of {R : Option StpV} {α : Type} {Q : Option α} {f : α → StpV} {g : Nat} {w w' : World} {s' : StpV} (hR : R = Q.map f) (hb : ButOne g w w') (hs : StpAt w' g s') (h : ∀ v, Q = some v → s' = f v) : TakeR R g w (.returned (.bool Q.isSome)) w' := by
  subst hR
  refine ⟨by cases Q <;> rfl, hb, s', hs, fun s1 h1 => ?_⟩
  obtain ⟨v, hv, rfl⟩ := Option.map_eq_some_iff.1 h1
  exact h v hv
def WdAt (w : World) (g : Nat) (x : ByteArray) : Prop := w.heap[g]? = some (.cells #[.string x] 9 (0, 0))
set_option maxRecDepth 100000 in
set_option maxHeartbeats 8000000 in
theorem take_any (c : UInt8) (hc : isLet c = true) (t : ByteArray) (ht : t.size ≤ 1000000) (g gw : Nat) (s : StpV) (wd : ByteArray) (w : World) (hs : StpAt w g s) (hw : WdAt w gw wd) (hv : PV w) :
    Calls Tryd.prog 29 #[.int .i32 (c.toNat : Int), .string t, .pointer (some ⟨g, 0, none⟩), .pointer (some ⟨gw, 0, none⟩)] w (TakeR (takeL wd.data.toList s c t.data.toList) g w) := by
  unfold isLet at hc
  simp only [Bool.or_eq_true, beq_iff_eq] at hc
  have HS := Lib.hid hs
  rcases hc with ((((((rfl | rfl) | rfl) | rfl) | rfl) | rfl) | rfl) | rfl
  · change Calls Tryd.prog 29 #[.int .i32 97, .string t, .pointer (some ⟨g, 0, none⟩), .pointer (some ⟨gw, 0, none⟩)] w _
    have Hcall := Lib.hid (small_any t (by omega) w hv)
    have Htk := Lib.hid (show takeL wd.data.toList s 97 t.data.toList = (smallL t.data.toList).map (fun v => { s with a := v }) from rfl)
    clear hs hw hv
    go_enter Tryd.func29, Tryd.ntmps29
    go_upto_region 19 with (go_at_call 30; refine Hcall.out.mono ?_; rintro e w1 ⟨hb1, x, hx, rfl, hxv⟩; have HX := Lib.hid hxv; have HB1 := Lib.hid hb1; have hs1 := StpAt.below HS.out hb1; have HS1 := Lib.hid hs1; obtain ⟨q0, q1, q2, q3, q6, q7, q8, q9, q10⟩ := StpAt.cells hs1; have qf := thaw_row 1 hs1; clear hxv hb1 hs1)
    go_wp2
    go_ret
    exact .of Htk.out ((ButOne.of HB1.out).trans (but_cell _)) (HS1.out.set { s with a := x } 1 _ rfl) (fun v h => by rw [HX.out v h])
  · change Calls Tryd.prog 29 #[.int .i32 98, .string t, .pointer (some ⟨g, 0, none⟩), .pointer (some ⟨gw, 0, none⟩)] w _
    have Hcall := Lib.hid (small_any t (by omega) w hv)
    have Htk := Lib.hid (show takeL wd.data.toList s 98 t.data.toList = (smallL t.data.toList).map (fun v => { s with b := v }) from rfl)
    clear hs hw hv
    go_enter Tryd.func29, Tryd.ntmps29
    go_upto_region 19 with (go_at_call 30; refine Hcall.out.mono ?_; rintro e w1 ⟨hb1, x, hx, rfl, hxv⟩; have HX := Lib.hid hxv; have HB1 := Lib.hid hb1; have hs1 := StpAt.below HS.out hb1; have HS1 := Lib.hid hs1; obtain ⟨q0, q1, q2, q3, q6, q7, q8, q9, q10⟩ := StpAt.cells hs1; have qf := thaw_row 2 hs1; clear hxv hb1 hs1)
    go_wp2
    go_ret
    exact .of Htk.out ((ButOne.of HB1.out).trans (but_cell _)) (HS1.out.set { s with b := x } 2 _ rfl) (fun v h => by rw [HX.out v h])
  · change Calls Tryd.prog 29 #[.int .i32 107, .string t, .pointer (some ⟨g, 0, none⟩), .pointer (some ⟨gw, 0, none⟩)] w _
    have Hcall := Lib.hid (number_any t (by omega) w hv)
    have Htk := Lib.hid (show takeL wd.data.toList s 107 t.data.toList = (numL t.data.toList).map (fun v => { s with k := v }) from rfl)
    clear hs hw hv
    go_enter Tryd.func29, Tryd.ntmps29
    go_upto_region 19 with (go_at_call 31; refine Hcall.out.mono ?_; rintro e w1 ⟨hb1, x, hx, rfl, hxv⟩; have HX := Lib.hid hxv; have HB1 := Lib.hid hb1; have hs1 := StpAt.below HS.out hb1; have HS1 := Lib.hid hs1; obtain ⟨q0, q1, q2, q3, q6, q7, q8, q9, q10⟩ := StpAt.cells hs1; have qf := thaw_row 3 hs1; clear hxv hb1 hs1)
    go_wp2
    go_ret
    exact .of Htk.out ((ButOne.of HB1.out).trans (but_cell _)) (HS1.out.set { s with k := x } 3 _ rfl) (fun v h => by rw [HX.out v h])
  · change Calls Tryd.prog 29 #[.int .i32 121, .string t, .pointer (some ⟨g, 0, none⟩), .pointer (some ⟨gw, 0, none⟩)] w _
    have Hcall := Lib.hid (unquote_any t ht w hv)
    have Htk := Lib.hid (show takeL wd.data.toList s 121 t.data.toList = (unqL t.data.toList).map (fun v => { s with y := v }) from rfl)
    clear hs hw hv
    go_enter Tryd.func29, Tryd.ntmps29
    go_upto_region 19 with (go_at_call 32; refine Hcall.out.mono ?_; rintro e w1 ⟨hb1, x, rfl, hxv⟩; have HX := Lib.hid hxv; have HB1 := Lib.hid hb1; have hs1 := StpAt.below HS.out hb1; have HS1 := Lib.hid hs1; obtain ⟨q0, q1, q2, q3, q6, q7, q8, q9, q10⟩ := StpAt.cells hs1; have qf := thaw_row 7 hs1; clear hxv hb1 hs1)
    go_wp2
    go_ret
    exact .of Htk.out ((ButOne.of HB1.out).trans (but_cell _)) (HS1.out.set { s with y := x.data.toList } 7 _ rfl) (fun v h => by rw [HX.out v h])
  · change Calls Tryd.prog 29 #[.int .i32 111, .string t, .pointer (some ⟨g, 0, none⟩), .pointer (some ⟨gw, 0, none⟩)] w _
    have Hcall := Lib.hid (unquote_any t ht w hv)
    have Htk := Lib.hid (show takeL wd.data.toList s 111 t.data.toList = (unqL t.data.toList).map (fun v => { s with o := v }) from rfl)
    clear hs hw hv
    go_enter Tryd.func29, Tryd.ntmps29
    go_upto_region 19 with (go_at_call 32; refine Hcall.out.mono ?_; rintro e w1 ⟨hb1, x, rfl, hxv⟩; have HX := Lib.hid hxv; have HB1 := Lib.hid hb1; have hs1 := StpAt.below HS.out hb1; have HS1 := Lib.hid hs1; obtain ⟨q0, q1, q2, q3, q6, q7, q8, q9, q10⟩ := StpAt.cells hs1; have qf := thaw_row 8 hs1; clear hxv hb1 hs1)
    go_wp2
    go_ret
    exact .of Htk.out ((ButOne.of HB1.out).trans (but_cell _)) (HS1.out.set { s with o := x.data.toList } 8 _ rfl) (fun v h => by rw [HX.out v h])
  · change Calls Tryd.prog 29 #[.int .i32 110, .string t, .pointer (some ⟨g, 0, none⟩), .pointer (some ⟨gw, 0, none⟩)] w _
    have Hcall := Lib.hid (unquote_any t ht w hv)
    have Htk := Lib.hid (show takeL wd.data.toList s 110 t.data.toList = (unqL t.data.toList).map (fun v => { s with n := v }) from rfl)
    clear hs hw hv
    go_enter Tryd.func29, Tryd.ntmps29
    go_upto_region 19 with (go_at_call 32; refine Hcall.out.mono ?_; rintro e w1 ⟨hb1, x, rfl, hxv⟩; have HX := Lib.hid hxv; have HB1 := Lib.hid hb1; have hs1 := StpAt.below HS.out hb1; have HS1 := Lib.hid hs1; obtain ⟨q0, q1, q2, q3, q6, q7, q8, q9, q10⟩ := StpAt.cells hs1; have qf := thaw_row 9 hs1; clear hxv hb1 hs1)
    go_wp2
    go_ret
    exact .of Htk.out ((ButOne.of HB1.out).trans (but_cell _)) (HS1.out.set { s with n := x.data.toList } 9 _ rfl) (fun v h => by rw [HX.out v h])
  · change Calls Tryd.prog 29 #[.int .i32 115, .string t, .pointer (some ⟨g, 0, none⟩), .pointer (some ⟨gw, 0, none⟩)] w _
    have Hcall := Lib.hid (small_any t (by omega) w hv)
    have Htk := Lib.hid (show takeL wd.data.toList s 115 t.data.toList = (smallL t.data.toList).map (fun v => { s with st := v }) from rfl)
    clear hs hw hv
    go_enter Tryd.func29, Tryd.ntmps29
    go_upto_region 19 with (go_at_call 30; refine Hcall.out.mono ?_; rintro e w1 ⟨hb1, x, hx, rfl, hxv⟩; have HX := Lib.hid hxv; have HB1 := Lib.hid hb1; have hs1 := StpAt.below HS.out hb1; have HS1 := Lib.hid hs1; obtain ⟨q0, q1, q2, q3, q6, q7, q8, q9, q10⟩ := StpAt.cells hs1; have qf := thaw_row 10 hs1; clear hxv hb1 hs1)
    go_wp2
    go_ret
    exact .of Htk.out ((ButOne.of HB1.out).trans (but_cell _)) (HS1.out.set { s with st := x } 10 _ rfl) (fun v h => by rw [HX.out v h])
  · change Calls Tryd.prog 29 #[.int .i32 105, .string t, .pointer (some ⟨g, 0, none⟩), .pointer (some ⟨gw, 0, none⟩)] w _
    have Htk := Lib.hid (show takeL wd.data.toList s 105 t.data.toList = if t.data.toList = wd.data.toList then some s else none from rfl)
    have f0 : w.cell? ⟨gw, 0, none⟩ = some (.string wd) := cell_of_row _ _ _ _ _ _ hw
    clear hs hw hv
    go_enter Tryd.func29, Tryd.ntmps29
    go_wp2
    go_ret
    refine ⟨?_, ButOne.of (Below.refl _ _), s, HS.out, fun s1 h => ?_⟩
    · rw [Htk.out]
      have e : (t.toList == wd.toList) = decide (t.data.toList = wd.data.toList) := bs_beq t wd
      by_cases h : t.data.toList = wd.data.toList
      · simp [e, h]
      · simp [e, h]
    · rw [Htk.out] at h
      split at h
      · cases h; rfl
      · cases h
end Go.Proofs.YtjjlodeiejobdaaDoor
