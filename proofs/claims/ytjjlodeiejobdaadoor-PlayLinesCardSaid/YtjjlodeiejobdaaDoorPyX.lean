/- Play: said. Condition: the step's texts are not too long; the library's variables hold what the program's text lays. -/
import Derived.Test.YtjjlodeiejobdaaDoorPyW
namespace Go.Proofs.YtjjlodeiejobdaaDoor
open Go.RowKit Go.Shelf
/-- A step's texts are not too long. -/
structure StpV.Few (s : StpV) : Prop where
  y : s.y.length ≤ 100000
  o : s.o.length ≤ 100000
  n : s.n.length ≤ 100000
def OneStr (l : Bs) (w : World) (e : Ending) (w' : World) : Prop := e = .returned (.string ⟨l.toArray⟩) ∧ Below w.heap.size w w'
theorem OneStr.of {l l' : Bs} {w w' : World} (hb : Below w.heap.size w w') (h : l' = l) : OneStr l w (.returned (.string ⟨l'.toArray⟩)) w' := by
  subst h
  exact ⟨rfl, hb⟩
set_option maxRecDepth 100000 in
set_option maxHeartbeats 8000000 in
theorem said_any (c : UInt8) (hc : isLet c = true) (s : StpV) (hok : s.Ok) (hf : s.Few) (wd : ByteArray) (w : World) (hv : PV w) :
    Calls Tryd.prog 25 #[.int .i32 (c.toNat : Int), stpV s, .string wd] w (OneStr (fldL s wd.data.toList c) w) := by
  unfold isLet at hc
  simp only [Bool.or_eq_true, beq_iff_eq] at hc
  have hb1 := (Below.refl w.heap.size w).alloc (Nat.le_refl _) (.cells (stpC s).toArray 39)
  have hs1 : StpAt (w.alloc (.cells (stpC s).toArray 39)) w.heap.size s := heap_alloc_new _ _
  have H1 := Lib.hid (And.intro hb1 (And.intro hs1 (hv.below hb1)))
  clear hb1 hs1 hv
  rcases hc with ((((((rfl | rfl) | rfl) | rfl) | rfl) | rfl) | rfl) | rfl
  · change Calls Tryd.prog 25 #[.int .i32 97, .agg #[.int .u8 (s.d : Int), .int .u8 (s.a : Int), .int .u8 (s.b : Int), .int .i64 s.k, .int .u8 (s.cl : Int), .int .u32 (s.sq : Int), .int .u8 (s.kd : Int), .string ⟨s.y.toArray⟩, .string ⟨s.o.toArray⟩, .string ⟨s.n.toArray⟩, .int .u8 (s.st : Int)], .string wd] w _
    have hwr : IntKind.i64.wrap (s.a : Int) = (s.a : Int) := by rw [IntKind.wrap_i64]; have := hok.a; omega
    have Hcall := Lib.hid (fun y (hy : PV y) => itoa_any (s.a : Int) (by omega) (by have := hok.a; omega) y hy)
    obtain ⟨f0, f1, f2, f3, f6, f7, f8, f9, f10⟩ := StpAt.cells H1.out.2.1
    go_enter Tryd.func25, Tryd.ntmps25
    go_upto_region 1 with fail
    change Code.wp _ _ _ _ (w.alloc (.cells (stpC s).toArray 39))
    generalize w.alloc (.cells (stpC s).toArray 39) = w1 at *
    go_wp2_with (go_at_call 43; refine (Hcall.out w1 H1.out.2.2).mono ?_; rintro e w2 ⟨rfl, hb2⟩; have HB2 := Lib.hid hb2; clear hb2)
    go_ret
    exact .of (H1.out.1.trans (HB2.out.mono H1.out.1.size)) (Lib.itoa_nonneg _)
  · change Calls Tryd.prog 25 #[.int .i32 98, .agg #[.int .u8 (s.d : Int), .int .u8 (s.a : Int), .int .u8 (s.b : Int), .int .i64 s.k, .int .u8 (s.cl : Int), .int .u32 (s.sq : Int), .int .u8 (s.kd : Int), .string ⟨s.y.toArray⟩, .string ⟨s.o.toArray⟩, .string ⟨s.n.toArray⟩, .int .u8 (s.st : Int)], .string wd] w _
    have hwr : IntKind.i64.wrap (s.b : Int) = (s.b : Int) := by rw [IntKind.wrap_i64]; have := hok.b; omega
    have Hcall := Lib.hid (fun y (hy : PV y) => itoa_any (s.b : Int) (by omega) (by have := hok.b; omega) y hy)
    obtain ⟨f0, f1, f2, f3, f6, f7, f8, f9, f10⟩ := StpAt.cells H1.out.2.1
    go_enter Tryd.func25, Tryd.ntmps25
    go_upto_region 1 with fail
    change Code.wp _ _ _ _ (w.alloc (.cells (stpC s).toArray 39))
    generalize w.alloc (.cells (stpC s).toArray 39) = w1 at *
    go_wp2_with (go_at_call 43; refine (Hcall.out w1 H1.out.2.2).mono ?_; rintro e w2 ⟨rfl, hb2⟩; have HB2 := Lib.hid hb2; clear hb2)
    go_ret
    exact .of (H1.out.1.trans (HB2.out.mono H1.out.1.size)) (Lib.itoa_nonneg _)
  · change Calls Tryd.prog 25 #[.int .i32 107, .agg #[.int .u8 (s.d : Int), .int .u8 (s.a : Int), .int .u8 (s.b : Int), .int .i64 s.k, .int .u8 (s.cl : Int), .int .u32 (s.sq : Int), .int .u8 (s.kd : Int), .string ⟨s.y.toArray⟩, .string ⟨s.o.toArray⟩, .string ⟨s.n.toArray⟩, .int .u8 (s.st : Int)], .string wd] w _
    have Hcall := Lib.hid (fun y (hy : PV y) => itoa_any s.k hok.k.1 hok.k.2 y hy)
    obtain ⟨f0, f1, f2, f3, f6, f7, f8, f9, f10⟩ := StpAt.cells H1.out.2.1
    go_enter Tryd.func25, Tryd.ntmps25
    go_upto_region 1 with fail
    change Code.wp _ _ _ _ (w.alloc (.cells (stpC s).toArray 39))
    generalize w.alloc (.cells (stpC s).toArray 39) = w1 at *
    go_wp2_with (go_at_call 43; refine (Hcall.out w1 H1.out.2.2).mono ?_; rintro e w2 ⟨rfl, hb2⟩; have HB2 := Lib.hid hb2; clear hb2)
    go_ret
    exact .of (H1.out.1.trans (HB2.out.mono H1.out.1.size)) (rfl)
  · change Calls Tryd.prog 25 #[.int .i32 121, .agg #[.int .u8 (s.d : Int), .int .u8 (s.a : Int), .int .u8 (s.b : Int), .int .i64 s.k, .int .u8 (s.cl : Int), .int .u32 (s.sq : Int), .int .u8 (s.kd : Int), .string ⟨s.y.toArray⟩, .string ⟨s.o.toArray⟩, .string ⟨s.n.toArray⟩, .int .u8 (s.st : Int)], .string wd] w _
    have Hcall := Lib.hid (fun y (_ : PV y) => quote_any ⟨s.y.toArray⟩ (by have := hf.y; show s.y.toArray.size ≤ 1000000; simp; omega) y)
    obtain ⟨f0, f1, f2, f3, f6, f7, f8, f9, f10⟩ := StpAt.cells H1.out.2.1
    go_enter Tryd.func25, Tryd.ntmps25
    go_upto_region 1 with fail
    change Code.wp _ _ _ _ (w.alloc (.cells (stpC s).toArray 39))
    generalize w.alloc (.cells (stpC s).toArray 39) = w1 at *
    go_wp2_with (go_at_call 44; refine (Hcall.out w1 H1.out.2.2).mono ?_; rintro e w2 ⟨rfl, hb2⟩; have HB2 := Lib.hid hb2; clear hb2)
    go_ret
    exact .of (H1.out.1.trans (HB2.out.mono H1.out.1.size)) (rfl)
  · change Calls Tryd.prog 25 #[.int .i32 111, .agg #[.int .u8 (s.d : Int), .int .u8 (s.a : Int), .int .u8 (s.b : Int), .int .i64 s.k, .int .u8 (s.cl : Int), .int .u32 (s.sq : Int), .int .u8 (s.kd : Int), .string ⟨s.y.toArray⟩, .string ⟨s.o.toArray⟩, .string ⟨s.n.toArray⟩, .int .u8 (s.st : Int)], .string wd] w _
    have Hcall := Lib.hid (fun y (_ : PV y) => quote_any ⟨s.o.toArray⟩ (by have := hf.o; show s.o.toArray.size ≤ 1000000; simp; omega) y)
    obtain ⟨f0, f1, f2, f3, f6, f7, f8, f9, f10⟩ := StpAt.cells H1.out.2.1
    go_enter Tryd.func25, Tryd.ntmps25
    go_upto_region 1 with fail
    change Code.wp _ _ _ _ (w.alloc (.cells (stpC s).toArray 39))
    generalize w.alloc (.cells (stpC s).toArray 39) = w1 at *
    go_wp2_with (go_at_call 44; refine (Hcall.out w1 H1.out.2.2).mono ?_; rintro e w2 ⟨rfl, hb2⟩; have HB2 := Lib.hid hb2; clear hb2)
    go_ret
    exact .of (H1.out.1.trans (HB2.out.mono H1.out.1.size)) (rfl)
  · change Calls Tryd.prog 25 #[.int .i32 110, .agg #[.int .u8 (s.d : Int), .int .u8 (s.a : Int), .int .u8 (s.b : Int), .int .i64 s.k, .int .u8 (s.cl : Int), .int .u32 (s.sq : Int), .int .u8 (s.kd : Int), .string ⟨s.y.toArray⟩, .string ⟨s.o.toArray⟩, .string ⟨s.n.toArray⟩, .int .u8 (s.st : Int)], .string wd] w _
    have Hcall := Lib.hid (fun y (_ : PV y) => quote_any ⟨s.n.toArray⟩ (by have := hf.n; show s.n.toArray.size ≤ 1000000; simp; omega) y)
    obtain ⟨f0, f1, f2, f3, f6, f7, f8, f9, f10⟩ := StpAt.cells H1.out.2.1
    go_enter Tryd.func25, Tryd.ntmps25
    go_upto_region 1 with fail
    change Code.wp _ _ _ _ (w.alloc (.cells (stpC s).toArray 39))
    generalize w.alloc (.cells (stpC s).toArray 39) = w1 at *
    go_wp2_with (go_at_call 44; refine (Hcall.out w1 H1.out.2.2).mono ?_; rintro e w2 ⟨rfl, hb2⟩; have HB2 := Lib.hid hb2; clear hb2)
    go_ret
    exact .of (H1.out.1.trans (HB2.out.mono H1.out.1.size)) (rfl)
  · change Calls Tryd.prog 25 #[.int .i32 115, .agg #[.int .u8 (s.d : Int), .int .u8 (s.a : Int), .int .u8 (s.b : Int), .int .i64 s.k, .int .u8 (s.cl : Int), .int .u32 (s.sq : Int), .int .u8 (s.kd : Int), .string ⟨s.y.toArray⟩, .string ⟨s.o.toArray⟩, .string ⟨s.n.toArray⟩, .int .u8 (s.st : Int)], .string wd] w _
    have hwr : IntKind.i64.wrap (s.st : Int) = (s.st : Int) := by rw [IntKind.wrap_i64]; have := hok.st; omega
    have Hcall := Lib.hid (fun y (hy : PV y) => itoa_any (s.st : Int) (by omega) (by have := hok.st; omega) y hy)
    obtain ⟨f0, f1, f2, f3, f6, f7, f8, f9, f10⟩ := StpAt.cells H1.out.2.1
    go_enter Tryd.func25, Tryd.ntmps25
    go_upto_region 1 with fail
    change Code.wp _ _ _ _ (w.alloc (.cells (stpC s).toArray 39))
    generalize w.alloc (.cells (stpC s).toArray 39) = w1 at *
    go_wp2_with (go_at_call 43; refine (Hcall.out w1 H1.out.2.2).mono ?_; rintro e w2 ⟨rfl, hb2⟩; have HB2 := Lib.hid hb2; clear hb2)
    go_ret
    exact .of (H1.out.1.trans (HB2.out.mono H1.out.1.size)) (Lib.itoa_nonneg _)
  · change Calls Tryd.prog 25 #[.int .i32 105, .agg #[.int .u8 (s.d : Int), .int .u8 (s.a : Int), .int .u8 (s.b : Int), .int .i64 s.k, .int .u8 (s.cl : Int), .int .u32 (s.sq : Int), .int .u8 (s.kd : Int), .string ⟨s.y.toArray⟩, .string ⟨s.o.toArray⟩, .string ⟨s.n.toArray⟩, .int .u8 (s.st : Int)], .string wd] w _
    go_enter Tryd.func25, Tryd.ntmps25
    go_upto_region 1 with fail
    change Code.wp _ _ _ _ (w.alloc (.cells (stpC s).toArray 39))
    generalize w.alloc (.cells (stpC s).toArray 39) = w1 at *
    go_wp2
    go_ret
    exact ⟨rfl, H1.out.1⟩
end Go.Proofs.YtjjlodeiejobdaaDoor
