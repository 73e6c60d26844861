/- Play: lines. Condition: the iterator's blocks are its own. -/
import Derived.Test.YtjjlodeiejobdaaDoorPyF
namespace Go.Proofs.YtjjlodeiejobdaaDoor
open Go.RowKit Go.Shelf
attribute [local go_sem] Oper.semAt_some
theorem room_none {F : Fence} (hd : F.depth = none) (k : Nat) : F.room k := fun d h => by rw [hd] at h; cases h
theorem round_any {F : Fence} (hd : F.depth = none) {m m' : Nat} {P : Program} {l : Nat} {f : FuncId} {tmps : Array Value} {assign body : Code} {w : World} {R : Ending → World → Prop}
    (h : RoundIn F m P l f tmps assign body w R) : RoundIn F m' P l f tmps assign body w R := ⟨h.1, fun c cs _ => h.2 c cs (room_none hd _)⟩
/-- Does a line say something? -/
def saysB (p : ByteArray) : Bool := match p.data.toList with
  | [] => false
  | c :: _ => c != 35
theorem says_nil {p : ByteArray} (h : p.size = 0) : p.toList.isEmpty = true := by
  rw [Lib.toList_data]
  have : p.data.toList.length = 0 := by rw [Array.length_toList]; exact h
  rw [List.length_eq_zero_iff.1 this]
  rfl
theorem says_no {p : ByteArray} (h : p.size = 0) : saysB p = false := by
  have : p.data.toList.length = 0 := by rw [Array.length_toList]; exact h
  unfold saysB
  rw [List.length_eq_zero_iff.1 this]
theorem says_ne {p : ByteArray} (h : 0 < p.size) : p.toList.isEmpty = false := by
  rw [Lib.toList_data]
  have : 0 < p.data.toList.length := by rw [Array.length_toList]; exact h
  cases he : p.data.toList with
  | nil => rw [he] at this; cases this
  | cons _ _ => rfl
theorem says_at {p : ByteArray} (h : 0 < p.size) : saysB p = (((p[0]'h).toNat : Int) != 35) := by
  have h1 : p.data.toList[0]? = some (p[0]'h) := by
    rw [Array.getElem?_toList, Array.getElem?_eq_getElem (show 0 < p.data.size from h)]
    rfl
  unfold saysB
  cases he : p.data.toList with
  | nil => rw [he] at h1; cases h1
  | cons c r =>
    rw [he] at h1
    cases h1
    show ((p[0]'h) != 35) = _
    by_cases q : (p[0]'h) = 35
    · rw [q]; rfl
    · have q2 : ((p[0]'h).toNat : Int) ≠ 35 := fun e => q (UInt8.toNat_inj.1 (show (p[0]'h).toNat = 35 by omega))
      rw [bne_iff_ne.2 q, bne_iff_ne.2 q2]
/-- The lines that say something, numbered. -/
def fltB : Nat → List ByteArray → List (Nat × ByteArray)
  | _, [] => []
  | i, p :: r => if saysB p then (i + 1, p) :: fltB (i + 1) r else fltB (i + 1) r
theorem flt_app : ∀ (i : Nat) (a b : List ByteArray), fltB i (a ++ b) = fltB i a ++ fltB (i + a.length) b
  | _, [], _ => rfl
  | i, p :: r, b => by
    have e : i + 1 + r.length = i + (r.length + 1) := by omega
    show (if saysB p then (i + 1, p) :: fltB (i + 1) (r ++ b) else fltB (i + 1) (r ++ b)) = (if saysB p then (i + 1, p) :: fltB (i + 1) r else fltB (i + 1) r) ++ fltB (i + (r.length + 1)) b
    rw [flt_app (i + 1) r b, e]
    split <;> rfl
theorem flt_yes {pre : List ByteArray} {p : ByteArray} (h : saysB p = true) : fltB 0 (pre ++ [p]) = fltB 0 pre ++ [(pre.length + 1, p)] := by
  rw [flt_app, Nat.zero_add]
  simp [fltB, h]
theorem flt_no {pre : List ByteArray} {p : ByteArray} (h : saysB p = false) : fltB 0 (pre ++ [p]) = fltB 0 pre := by
  rw [flt_app, Nat.zero_add]
  simp [fltB, h]
theorem flt_pre {a b : List ByteArray} (h : a <+: b) : fltB 0 a <+: fltB 0 b := by
  obtain ⟨c, rfl⟩ := h
  rw [flt_app]
  exact List.prefix_append _ _
set_option maxRecDepth 100000 in
set_option maxHeartbeats 4000000 in
theorem ln_in (l Bt : Nat) (x : ByteArray) (hxs : x.size ≤ 1000000) (Z : Nat → Prop) (J Jx : List (Nat × ByteArray) → World → Prop) (W : World) (hZ : ∀ r, Z r ↔ W.heap.size ≤ r ∧ r < W.heap.size + 7) (hJ : AbidesZ Z J) (hJx : AbidesZ Z Jx)
    (hY : ∀ pre p W1, J pre W1 → (∀ r, Z r → r < W1.heap.size) → (pre ++ [p]) <+: fltB 0 (pcsB 10 x) → ∀ m, YieldAt Fence.wide m Tryd.prog l #[.int .i64 (p.1 : Int), .string p.2] W1 fun e W' =>
      (e = .returned (.bool true) ∧ J (pre ++ [p]) W' ∧ KeptZ Z W1 W') ∨ (e = .returned (.bool false) ∧ Jx (pre ++ [p]) W' ∧ KeptZ Z W1 W'))
    (ht : W.heap[Bt]? = some (.cells #[.string x] 9 (0, 0))) (h0 : J [] W) :
    CallsIn Fence.wide 9 Tryd.prog 38 #[.func (.yield l) #[] #[], .pointer (some ⟨Bt, 0, none⟩)] W fun e W' => (∃ v, e = .returned v) ∧
      ((∃ ys, ys = fltB 0 (pcsB 10 x) ∧ J ys W') ∨ (∃ pre, pre <+: fltB 0 (pcsB 10 x) ∧ Jx pre W')) := by
  refine callsIn_of_wp_marks Tryd.func38 rfl trivial ?_ rfl
  simp only [Tryd.ntmps38, List.size_toArray, List.length_cons, List.length_nil, Nat.reduceAdd, Nat.reduceSub, Array.replicate_succ, Array.replicate_zero, List.push_toArray, List.append_toArray, List.nil_append, List.cons_append]
  have ct : W.cell? ⟨Bt, 0, none⟩ = some (.string x) := cell_of_row _ _ _ _ _ _ ht
  have hlt : Bt < W.heap.size := (Array.getElem?_eq_some_iff.1 ht).1
  have hb2 := ((Below.refl W.heap.size W).alloc (Nat.le_refl _) (.cells #[.func (.yield l) #[] #[]] 78)).alloc (by simp) (.cells #[.int .i64 0] 3)
  have ct2 := (hb2.cell (p := ⟨Bt, 0, none⟩) hlt).trans ct
  clear hlt
  have HB2 := Lib.hid hb2
  have H0 := Lib.hid (And.intro ht h0)
  have HY := Lib.hid hY
  have HJ := Lib.hid (And.intro hJ hJx)
  clear ht h0 hY hJ hJx hb2
  gi_wp2_with (first
    | (refine ⟨trivial, ?_⟩; refine (sps_in _ _ _ _).mono ?_; rintro e w1 ⟨rfl, rfl⟩; dsimp only)
    | gi_in)
  generalize hW2 : (W.alloc (.cells #[.func (.yield l) #[] #[]] 78)).alloc (.cells #[.int .i64 0] 3) = W2 at *
  have s2 : W2.heap.size = W.heap.size + 2 := by rw [← hW2]; simp
  have hy2 : W2.heap[W.heap.size]? = some (.cells #[.func (.yield l) #[] #[]] 78 (0, 0)) := by rw [← hW2]; exact (Below.heap_alloc _ _ _ (by simp)).trans (heap_alloc_new W _)
  have hn2 : W2.heap[W.heap.size + 1]? = some (.cells #[.int .i64 0] 3 (0, 0)) := by
    rw [← hW2]
    have h := heap_alloc_new (W.alloc (.cells #[.func (.yield l) #[] #[]] 78)) (.cells #[.int .i64 0] 3)
    rwa [World.size_alloc] at h
  rw [s2]
  have hb5 := (((Below.refl W2.heap.size W2).alloc (Nat.le_refl _) (.cells #[.string x] 9)).alloc (by simp) (.cells #[.string ⟨#[10]⟩] 9)).alloc (by simp; omega) (.cells #[.int .i64 0] 3)
  have hs5 : (((W2.alloc (.cells #[.string x] 9)).alloc (.cells #[.string ⟨#[10]⟩] 9)).alloc (.cells #[.int .i64 0] 3)).heap[W.heap.size + 2]? = some (.cells #[.string x] 9 (0, 0)) := by
    rw [← s2]
    exact (Below.heap_alloc _ _ _ (by simp; omega)).trans ((Below.heap_alloc _ _ _ (by simp)).trans (heap_alloc_new W2 _))
  have hp5 : (((W2.alloc (.cells #[.string x] 9)).alloc (.cells #[.string ⟨#[10]⟩] 9)).alloc (.cells #[.int .i64 0] 3)).heap[W.heap.size + 2 + 1]? = some (.cells #[.string ⟨#[10]⟩] 9 (0, 0)) := by
    have h := heap_alloc_new (W2.alloc (.cells #[.string x] 9)) (.cells #[.string ⟨#[10]⟩] 9)
    rw [World.size_alloc, s2] at h
    exact (Below.heap_alloc _ _ _ (by simp; omega)).trans h
  have hv5 : (((W2.alloc (.cells #[.string x] 9)).alloc (.cells #[.string ⟨#[10]⟩] 9)).alloc (.cells #[.int .i64 0] 3)).heap[W.heap.size + 2 + 2]? = some (.cells #[.int .i64 0] 3 (0, 0)) := by
    have h := heap_alloc_new ((W2.alloc (.cells #[.string x] 9)).alloc (.cells #[.string ⟨#[10]⟩] 9)) (.cells #[.int .i64 0] 3)
    rwa [World.size_alloc, World.size_alloc, s2] at h
  have s5 : (((W2.alloc (.cells #[.string x] 9)).alloc (.cells #[.string ⟨#[10]⟩] 9)).alloc (.cells #[.int .i64 0] 3)).heap.size = W.heap.size + 5 := by simp; omega
  generalize ((W2.alloc (.cells #[.string x] 9)).alloc (.cells #[.string ⟨#[10]⟩] 9)).alloc (.cells #[.int .i64 0] 3) = W5 at *
  have hb : Below W.heap.size W W5 := HB2.out.trans (hb5.mono HB2.out.size)
  have hy5 := (hb5.block (W.heap.size) (by omega)).trans hy2
  have hn5 := (hb5.block (W.heap.size + 1) (by omega)).trans hn2
  have hj5 : J [] W5 := HJ.out.1 [] W W5 none H0.out.2 ⟨hb.os, hb.tape, hb.output, hb.size, fun q hq _ => hb.block q hq⟩ (fun r e => by cases e)
  refine wpIn_rangeZ rfl (by decide) (gf := 66) (lb := #[.pointer (some ⟨W.heap.size + 2 + 1, 0, none⟩), .pointer (some ⟨W.heap.size + 2, 0, none⟩), .pointer (some ⟨W.heap.size + 2 + 2, 0, none⟩)]) rfl trivial (enters_of Tryd.func66 (by kernel_rfl) rfl)
    (sq_stops _ (W.heap.size + 2) (W.heap.size + 2 + 1) (W.heap.size + 2 + 2) x hxs ⟨by omega, by omega⟩ W5 hs5 hp5 hv5) (Below.refl _ _) (fun r hr => by rcases hr with rfl | rfl | rfl <;> omega) (fun _ => rfl)
    (Z := fun r => (r = W.heap.size + 2 ∨ r = W.heap.size + 2 + 1 ∨ r = W.heap.size + 2 + 2) ∨ (W5.heap.size ≤ r ∧ r < W5.heap.size + 2 + 0)) (fun _ => Iff.rfl)
    (fun pre W' => J (fltB 0 pre) W' ∧ W'.heap[W.heap.size]? = some (.cells #[.func (.yield l) #[] #[]] 78 (0, 0)) ∧ W'.heap[W.heap.size + 1]? = some (.cells #[.int .i64 (pre.length : Int)] 3 (0, 0)))
    (fun c pre W' => c = .ret ∧ ∃ q, q <+: fltB 0 (pcsB 10 x) ∧ Jx q W')
    (fun s A B row hs hg hr => ?hI) (fun c s A B row hs hg hr => ?hIx) ⟨hj5, hy5, hn5⟩ (fun p => { tmps := #[.func (.yield l) #[] #[], .pointer (some ⟨Bt, 0, none⟩), .pointer (some ⟨W.heap.size, 0, none⟩), .pointer (some ⟨W.heap.size + 1, 0, none⟩), .string p, .string x, .func (.func 66) #[] #[.pointer (some ⟨W.heap.size + 2 + 1, 0, none⟩), .pointer (some ⟨W.heap.size + 2, 0, none⟩), .pointer (some ⟨W.heap.size + 2 + 2, 0, none⟩)], .string p, undef, undef, undef, undef, undef, undef, undef, undef, undef, undef, undef, undef, undef, undef, undef, undef], defers := [] }) ?assign ?body ?done ?stop
  case hI =>
    have hz : ∀ r, row = some r → W.heap.size + 2 ≤ r ∧ r < W.heap.size + 7 := fun r e => by rcases hr r e with (rfl | rfl | rfl) | h <;> omega
    refine ⟨HJ.out.1 _ _ _ row hs.1 hg (fun r e => (hZ r).2 (by have := hz r e; omega)), (hg.block _ (Array.getElem?_eq_some_iff.1 hs.2.1).1 (fun e => by have := hz _ e.symm; omega)).trans hs.2.1, (hg.block _ (Array.getElem?_eq_some_iff.1 hs.2.2).1 (fun e => by have := hz _ e.symm; omega)).trans hs.2.2⟩
  case hIx =>
    have hz : ∀ r, row = some r → W.heap.size + 2 ≤ r ∧ r < W.heap.size + 7 := fun r e => by rcases hr r e with (rfl | rfl | rfl) | h <;> omega
    obtain ⟨h1, q, h2, h3⟩ := hs
    exact ⟨h1, q, h2, HJ.out.2 _ _ _ row h3 hg (fun r e => (hZ r).2 (by have := hz r e; omega))⟩
  case assign =>
    intro l' p W' K hK
    gi_wp2
    exact hK
  case body =>
    rintro l' pre p W1 ⟨hj, hy1, hn1⟩ hbig hSp
    have cn1 : W1.cell? ⟨W.heap.size + 1, 0, none⟩ = some (.int .i64 (pre.length : Int)) := cell_of_row _ _ _ _ _ _ hn1
    have qf := thaw_row 0 hn1
    have hpl : pre.length ≤ 1000000 := by
      obtain ⟨c, hc⟩ := hSp
      have h := pcs_many 10 x
      rw [← hc] at h
      simp only [List.length_append, List.length_singleton] at h
      omega
    obtain ⟨N, hN⟩ : ∃ N, N = pre.length := ⟨_, rfl⟩
    rw [← hN] at cn1
    have hw1 : wrap64 ((N : Int) + 1) = (N : Int) + 1 := by rw [hN]; unfold wrap64; omega
    have hn6 : (W1.setCell ⟨W.heap.size + 1, 0, none⟩ (.int .i64 ((N : Int) + 1))).heap[W.heap.size + 1]? = some (.cells #[.int .i64 ((N : Int) + 1)] 3 (0, 0)) := heap_setCell_same W1 _ 0 #[.int .i64 (pre.length : Int)] 3 _ hn1
    have hy6 : (W1.setCell ⟨W.heap.size + 1, 0, none⟩ (.int .i64 ((N : Int) + 1))).heap[W.heap.size]? = some (.cells #[.func (.yield l) #[] #[]] 78 (0, 0)) := (Below.heap_setCell W1 ⟨W.heap.size + 1, 0, none⟩ _ W.heap.size (by simp)).trans hy1
    have cn6 : (W1.setCell ⟨W.heap.size + 1, 0, none⟩ (.int .i64 ((N : Int) + 1))).cell? ⟨W.heap.size + 1, 0, none⟩ = some (.int .i64 ((N : Int) + 1)) := cell_of_row _ _ _ _ _ _ hn6
    have cy6 : (W1.setCell ⟨W.heap.size + 1, 0, none⟩ (.int .i64 ((N : Int) + 1))).cell? ⟨W.heap.size, 0, none⟩ = some (.func (.yield l) #[] #[]) := cell_of_row _ _ _ _ _ _ hy6
    have hj6 : J (fltB 0 pre) (W1.setCell ⟨W.heap.size + 1, 0, none⟩ (.int .i64 ((N : Int) + 1))) := HJ.out.1 _ _ _ (some (W.heap.size + 1)) hj (grown_set W1 _ _) (fun r e => by cases e; exact (hZ _).2 (by omega))
    have hk6 : ∀ q, q ≠ W.heap.size + 1 → (W1.setCell ⟨W.heap.size + 1, 0, none⟩ (.int .i64 ((N : Int) + 1))).heap[q]? = W1.heap[q]? := fun q hq => Below.heap_setCell W1 ⟨W.heap.size + 1, 0, none⟩ _ q hq
    have hz6 : (W1.setCell ⟨W.heap.size + 1, 0, none⟩ (.int .i64 ((N : Int) + 1))).heap.size = W1.heap.size := by simp
    have hkz : KeptZ (fun r => (r = W.heap.size + 2 ∨ r = W.heap.size + 2 + 1 ∨ r = W.heap.size + 2 + 2) ∨ (W5.heap.size ≤ r ∧ r < W5.heap.size + 2 + 0)) W1 (W1.setCell ⟨W.heap.size + 1, 0, none⟩ (.int .i64 ((N : Int) + 1))) := fun r o hr h => (hk6 r (by rcases hr with (rfl | rfl | rfl) | h <;> omega)).trans h
    have hcast : ((N : Int) + 1) = ((pre.length + 1 : Nat) : Int) := by rw [hN]; rfl
    have HC := Lib.hid hcast
    have HB := Lib.hid (And.intro hj6 (And.intro hn6 (And.intro hy6 (And.intro hkz hz6))))
    have HSp := Lib.hid hSp
    have hyo := fun (h : saysB p = true) => HY.out (fltB 0 pre) (pre.length + 1, p) (W1.setCell ⟨W.heap.size + 1, 0, none⟩ (.int .i64 ((N : Int) + 1))) hj6 (fun r hr => by have := (hZ r).1 hr; rw [hz6]; omega) (by rw [← flt_yes h]; exact flt_pre hSp) 6
    simp only [← hcast] at hyo
    have HNo := Lib.hid (fun (h : saysB p = false) => show KeptZ _ W1 (W1.setCell ⟨W.heap.size + 1, 0, none⟩ (.int .i64 ((N : Int) + 1))) ∧ J (fltB 0 (pre ++ [p])) (W1.setCell ⟨W.heap.size + 1, 0, none⟩ (.int .i64 ((N : Int) + 1))) ∧ (W1.setCell ⟨W.heap.size + 1, 0, none⟩ (.int .i64 ((N : Int) + 1))).heap[W.heap.size]? = some (.cells #[.func (.yield l) #[] #[]] 78 (0, 0)) ∧ (W1.setCell ⟨W.heap.size + 1, 0, none⟩ (.int .i64 ((N : Int) + 1))).heap[W.heap.size + 1]? = some (.cells #[.int .i64 ((pre ++ [p]).length : Int)] 3 (0, 0)) from
      ⟨hkz, by rw [flt_no h]; exact hj6, hy6, by rw [List.length_append, List.length_singleton, ← hcast]; exact hn6⟩)
    clear hN hj6 hn6 hy6 hk6 hz6 hj hy1 hn1 hSp hpl hkz hcast
    by_cases hp0 : 0 < p.size
    · have hpe : p.toList.isEmpty = false := says_ne hp0
      have hsy := says_at hp0
      by_cases hc : ((p[0]'hp0).toNat : Int) = 35
      · have hcv : (((p[0]'hp0).toNat : Int) != 35) = false := by simp [hc]
        have hs0 : saysB p = false := by rw [hsy, hcv]
        clear hyo
        gi_wp2
        refine ⟨fun _ h => (by cases h), ?_⟩
        gi_wp2
        exact HNo.out hs0
      · have hcv : (((p[0]'hp0).toNat : Int) != 35) = true := by simp [hc]
        have hs1 : saysB p = true := by rw [hsy, hcv]
        obtain ⟨fn, tmps, assign, body, hy, hR⟩ := hyo hs1
        have HR := Lib.hid hR
        clear hR hyo
        gi_wp2
        refine RoundIn.mono (F := Fence.wide.inRound l') HR.out ?_
        have hsub : ∀ r, ((r = W.heap.size + 2 ∨ r = W.heap.size + 2 + 1 ∨ r = W.heap.size + 2 + 2) ∨ (W5.heap.size ≤ r ∧ r < W5.heap.size + 2 + 0)) → Z r := fun r hr => (hZ r).2 (by rcases hr with (rfl | rfl | rfl) | h <;> omega)
        rintro e W3 (⟨rfl, hJ3, hk3⟩ | ⟨rfl, hJ3, hk3⟩)
        · have H3 := Lib.hid (And.intro hJ3 hk3)
          clear hJ3 hk3
          dsimp only
          gi_wp2
          exact ⟨HB.out.2.2.2.1.trans (H3.out.2.sub hsub), by rw [flt_yes hs1]; exact H3.out.1, H3.out.2 _ _ ((hZ _).2 (by omega)) HB.out.2.2.1, by rw [List.length_append, List.length_singleton, ← HC.out]; exact H3.out.2 _ _ ((hZ _).2 (by omega)) HB.out.2.1⟩
        · have H3 := Lib.hid (And.intro hJ3 hk3)
          clear hJ3 hk3
          dsimp only
          gi_wp2
          exact ⟨HB.out.2.2.2.1.trans (H3.out.2.sub hsub), rfl, _, by rw [← flt_yes hs1]; exact flt_pre HSp.out, H3.out.1⟩
    · have hpe : p.toList.isEmpty = true := says_nil (by omega)
      have hs0 : saysB p = false := says_no (by omega)
      clear hyo
      gi_wp2
      refine ⟨fun _ h => (by cases h), ?_⟩
      gi_wp2
      exact HNo.out hs0
  case done =>
    rintro ys W' rfl ⟨hj, _, _⟩ hK
    gi_wp2
    refine ⟨by simp, .inl ⟨_, _, rfl, run_takeDeferred hK, ?_⟩⟩
    exact ⟨_, results_none rfl _ _ _, ⟨_, rfl⟩, .inl ⟨_, rfl, HJ.out.1 _ _ _ (some W5.heap.size) hj (grownBy_putObj' _ _ _) (fun r e => by cases e; exact (hZ _).2 (by omega))⟩⟩
  case stop =>
    rintro c pre W' hSp ⟨rfl, q, hq, hx⟩ hK
    gi_wp2
    refine ⟨by simp, .inl ⟨_, _, rfl, run_takeDeferred hK, ?_⟩⟩
    exact ⟨_, results_none rfl _ _ _, ⟨_, rfl⟩, .inr ⟨q, hq, HJ.out.2 _ _ _ (some W5.heap.size) hx (grownBy_putObj' _ _ _) (fun r e => by cases e; exact (hZ _).2 (by omega))⟩⟩
end Go.Proofs.YtjjlodeiejobdaaDoor
