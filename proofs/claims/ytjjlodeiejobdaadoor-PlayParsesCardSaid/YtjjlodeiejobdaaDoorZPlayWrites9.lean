/- Play: lines. Condition: the iterator's blocks are its own. -/
import Derived.Test.YtjjlodeiejobdaaDoorZPlayWrites8
import Derived.Test.YtjjlodeiejobdaaDoorZPlayWrites6
namespace Go.Proofs.YtjjlodeiejobdaaDoor
open Go.RowKit Go.Shelf
attribute [local go_sem] Oper.semAt_some
theorem room_none {F : Fence} (hd : F.depth = none) (k : Nat) : F.room k := fun d h => by rw [hd] at h; cases h
theorem round_any {F : Fence} (hd : F.depth = none) {m m' : Nat} {P : Program} {l : Nat} {f : FuncId} {tmps : Array Value} {assign body : Code} {w : World} {R : Ending → World → Prop}
    (h : RoundIn F m P l f tmps assign body w R) : RoundIn F m' P l f tmps assign body w R := ⟨h.1, fun c cs _ => h.2 c cs (room_none hd _)⟩
/-- Does a line say something? -/
def saysB (p : ByteArray) : Bool := match p.data.toList with
  | [] => false
  | c :: _ => c != 35
theorem says_nil {p : ByteArray} (h : p.size = 0) : p.toList.isEmpty = true := by
  rw [Lib.toList_data]
  have : p.data.toList.length = 0 := by rw [Array.length_toList]; exact h
  rw [List.length_eq_zero_iff.1 this]
  rfl
theorem says_no {p : ByteArray} (h : p.size = 0) : saysB p = false := by
  have : p.data.toList.length = 0 := by rw [Array.length_toList]; exact h
  unfold saysB
  rw [List.length_eq_zero_iff.1 this]
theorem says_ne {p : ByteArray} (h : 0 < p.size) : p.toList.isEmpty = false := by
  rw [Lib.toList_data]
  have : 0 < p.data.toList.length := by rw [Array.length_toList]; exact h
  cases he : p.data.toList with
  | nil => rw [he] at this; cases this
  | cons _ _ => rfl
theorem says_at {p : ByteArray} (h : 0 < p.size) : saysB p = (((p[0]'h).toNat : Int) != 35) := by
  have h1 : p.data.toList[0]? = some (p[0]'h) := by
    rw [Array.getElem?_toList, Array.getElem?_eq_getElem (show 0 < p.data.size from h)]
    rfl
  unfold saysB
  cases he : p.data.toList with
  | nil => rw [he] at h1; cases h1
  | cons c r =>
    rw [he] at h1
    cases h1
    show ((p[0]'h) != 35) = _
    by_cases q : (p[0]'h) = 35
    · rw [q]; rfl
    · have q2 : ((p[0]'h).toNat : Int) ≠ 35 := fun e => q (UInt8.toNat_inj.1 (show (p[0]'h).toNat = 35 by omega))
      rw [bne_iff_ne.2 q, bne_iff_ne.2 q2]
/-- The lines that say something, numbered. -/
def fltB : Nat → List ByteArray → List (Nat × ByteArray)
  | _, [] => []
  | i, p :: r => if saysB p then (i + 1, p) :: fltB (i + 1) r else fltB (i + 1) r
theorem flt_app : ∀ (i : Nat) (a b : List ByteArray), fltB i (a ++ b) = fltB i a ++ fltB (i + a.length) b
  | _, [], _ => rfl
  | i, p :: r, b => by
    have e : i + 1 + r.length = i + (r.length + 1) := by omega
    show (if saysB p then (i + 1, p) :: fltB (i + 1) (r ++ b) else fltB (i + 1) (r ++ b)) = (if saysB p then (i + 1, p) :: fltB (i + 1) r else fltB (i + 1) r) ++ fltB (i + (r.length + 1)) b
    rw [flt_app (i + 1) r b, e]
    split <;> rfl
theorem flt_yes {pre : List ByteArray} {p : ByteArray} (h : saysB p = true) : fltB 0 (pre ++ [p]) = fltB 0 pre ++ [(pre.length + 1, p)] := by
  rw [flt_app, Nat.zero_add]
  simp [fltB, h]
theorem flt_no {pre : List ByteArray} {p : ByteArray} (h : saysB p = false) : fltB 0 (pre ++ [p]) = fltB 0 pre := by
  rw [flt_app, Nat.zero_add]
  simp [fltB, h]
theorem flt_pre {a b : List ByteArray} (h : a <+: b) : fltB 0 a <+: fltB 0 b := by
  obtain ⟨c, rfl⟩ := h
  rw [flt_app]
  exact List.prefix_append _ _
set_option maxRecDepth 100000 in
set_option maxHeartbeats 4000000 in
theorem ln_in (l Bt : Nat) (x : ByteArray) (hxs : x.size ≤ 1000000) (Z : Nat → Prop) (J Jx : List (Nat × ByteArray) → World → Prop) (W : World) (hZ : ∀ r, Z r ↔ W.heap.size ≤ r ∧ r < W.heap.size + 7) (hJ : AbidesZ Z J) (hJx : AbidesZ Z Jx)
    (hY : ∀ pre p W1, J pre W1 → (∀ r, Z r → r < W1.heap.size) → (pre ++ [p]) <+: fltB 0 (pcsB 10 x) → ∀ m, YieldAt Fence.wide m Tryd.prog l #[.int .i64 (p.1 : Int), .string p.2] W1 fun e W' =>
      (e = .returned (.bool true) ∧ J (pre ++ [p]) W' ∧ KeptZ Z W1 W') ∨ (e = .returned (.bool false) ∧ Jx (pre ++ [p]) W' ∧ KeptZ Z W1 W'))
    (ht : W.heap[Bt]? = some (.cells #[.string x] 9 (0, 0))) (h0 : J [] W) :
    CallsIn Fence.wide 9 Tryd.prog 38 #[.func (.yield l) #[] #[], .pointer (some ⟨Bt, 0, none⟩)] W fun e W' => (∃ v, e = .returned v) ∧
      ((∃ ys, ys = fltB 0 (pcsB 10 x) ∧ J ys W') ∨ (∃ pre, pre <+: fltB 0 (pcsB 10 x) ∧ Jx pre W')) := by
  refine callsIn_of_wp_marks Tryd.func38 rfl trivial ?_ rfl
  simp only [Tryd.ntmps38, List.size_toArray, List.length_cons, List.length_nil, Nat.reduceAdd, Nat.reduceSub, Array.replicate_succ, Array.replicate_zero, List.push_toArray, List.append_toArray, List.nil_append, List.cons_append]
  have ct : W.cell? ⟨Bt, 0, none⟩ = some (.string x) := cell_of_row _ _ _ _ _ _ ht
  have hlt : Bt < W.heap.size := (Array.getElem?_eq_some_iff.1 ht).1
  have hb2 := ((Below.refl W.heap.size W).alloc (Nat.le_refl _) (.cells #[.func (.yield l) #[] #[]] 78)).alloc (by simp) (.cells #[.int .i64 0] 3)
  have ct2 := (hb2.cell (p := ⟨Bt, 0, none⟩) hlt).trans ct
  clear hlt
  have HB2 := Lib.hid hb2
  have H0 := Lib.hid (And.intro ht h0)
  have HY := Lib.hid hY
  have HJ := Lib.hid (And.intro hJ hJx)
  clear ht h0 hY hJ hJx hb2
  gi_wp2_with (first
    | (refine ⟨trivial, ?_⟩; refine (sps_in _ _ _ _).mono ?_; rintro e w1 ⟨rfl, rfl⟩; dsimp only)
    | gi_in)
  generalize hW2 : (W.alloc (.cells #[.func (.yield l) #[] #[]] 78)).alloc (.cells #[.int .i64 0] 3) = W2 at *
  have s2 : W2.heap.size = W.heap.size + 2 := by rw [← hW2]; simp
  have hy2 : W2.heap[W.heap.size]? = some (.cells #[.func (.yield l) #[] #[]] 78 (0, 0)) := by rw [← hW2]; exact (Below.heap_alloc _ _ _ (by simp)).trans (heap_alloc_new W _)
  have hn2 : W2.heap[W.heap.size + 1]? = some (.cells #[.int .i64 0] 3 (0, 0)) := by
    rw [← hW2]
    have h := heap_alloc_new (W.alloc (.cells #[.func (.yield l) #[] #[]] 78)) (.cells #[.int .i64 0] 3)
    rwa [World.size_alloc] at h
  rw [s2]
  have hb5 := (((Below.refl W2.heap.size W2).alloc (Nat.le_refl _) (.cells #[.string x] 9)).alloc (by simp) (.cells #[.string ⟨#[10]⟩] 9)).alloc (by simp; omega) (.cells #[.int .i64 0] 3)
  have hs5 : (((W2.alloc (.cells #[.string x] 9)).alloc (.cells #[.string ⟨#[10]⟩] 9)).alloc (.cells #[.int .i64 0] 3)).heap[W.heap.size + 2]? = some (.cells #[.string x] 9 (0, 0)) := by
    rw [← s2]
    exact (Below.heap_alloc _ _ _ (by simp; omega)).trans ((Below.heap_alloc _ _ _ (by simp)).trans (heap_alloc_new W2 _))
  have hp5 : (((W2.alloc (.cells #[.string x] 9)).alloc (.cells #[.string ⟨#[10]⟩] 9)).alloc (.cells #[.int .i64 0] 3)).heap[W.heap.size + 2 + 1]? = some (.cells #[.string ⟨#[10]⟩] 9 (0, 0)) := by
    have h := heap_alloc_new (W2.alloc (.cells #[.string x] 9)) (.cells #[.string ⟨#[10]⟩] 9)
    rw [World.size_alloc, s2] at h
    exact (Below.heap_alloc _ _ _ (by simp; omega)).trans h
  have hv5 : (((W2.alloc (.cells #[.string x] 9)).alloc (.cells #[.string ⟨#[10]⟩] 9)).alloc (.cells #[.int .i64 0] 3)).heap[W.heap.size + 2 + 2]? = some (.cells #[.int .i64 0] 3 (0, 0)) := by
    have h := heap_alloc_new ((W2.alloc (.cells #[.string x] 9)).alloc (.cells #[.string ⟨#[10]⟩] 9)) (.cells #[.int .i64 0] 3)
    rwa [World.size_alloc, World.size_alloc, s2] at h
  have s5 : (((W2.alloc (.cells #[.string x] 9)).alloc (.cells #[.string ⟨#[10]⟩] 9)).alloc (.cells #[.int .i64 0] 3)).heap.size = W.heap.size + 5 := by simp; omega
  generalize ((W2.alloc (.cells #[.string x] 9)).alloc (.cells #[.string ⟨#[10]⟩] 9)).alloc (.cells #[.int .i64 0] 3) = W5 at *
  have hb : Below W.heap.size W W5 := HB2.out.trans (hb5.mono HB2.out.size)
  have hy5 := (hb5.block (W.heap.size) (by omega)).trans hy2
  have hn5 := (hb5.block (W.heap.size + 1) (by omega)).trans hn2
  have hj5 : J [] W5 := HJ.out.1 [] W W5 none H0.out.2 ⟨hb.os, hb.tape, hb.output, hb.size, fun q hq _ => hb.block q hq⟩ (fun r e => by cases e)
  refine wpIn_rangeZ rfl (by decide) (gf := 66) (lb := #[.pointer (some ⟨W.heap.size + 2 + 1, 0, none⟩), .pointer (some ⟨W.heap.size + 2, 0, none⟩), .pointer (some ⟨W.heap.size + 2 + 2, 0, none⟩)]) rfl trivial (enters_of Tryd.func66 (by kernel_rfl) rfl)
    (sq_stops _ (W.heap.size + 2) (W.heap.size + 2 + 1) (W.heap.size + 2 + 2) x hxs ⟨by omega, by omega⟩ W5 hs5 hp5 hv5) (Below.refl _ _) (fun r hr => by rcases hr with rfl | rfl | rfl <;> omega) (fun _ => rfl)
    (Z := fun r => (r = W.heap.size + 2 ∨ r = W.heap.size + 2 + 1 ∨ r = W.heap.size + 2 + 2) ∨ (W5.heap.size ≤ r ∧ r < W5.heap.size + 2 + 0)) (fun _ => Iff.rfl)
    (fun pre W' => J (fltB 0 pre) W' ∧ W'.heap[W.heap.size]? = some (.cells #[.func (.yield l) #[] #[]] 78 (0, 0)) ∧ W'.heap[W.heap.size + 1]? = some (.cells #[.int .i64 (pre.length : Int)] 3 (0, 0)))
    (fun c pre W' => c = .ret ∧ ∃ q, q <+: fltB 0 (pcsB 10 x) ∧ Jx q W')
    (fun s A B row hs hg hr => ?hI) (fun c s A B row hs hg hr => ?hIx) ⟨hj5, hy5, hn5⟩ (fun p => { tmps := #[.func (.yield l) #[] #[], .pointer (some ⟨Bt, 0, none⟩), .pointer (some ⟨W.heap.size, 0, none⟩), .pointer (some ⟨W.heap.size + 1, 0, none⟩), .string p, .string x, .func (.func 66) #[] #[.pointer (some ⟨W.heap.size + 2 + 1, 0, none⟩), .pointer (some ⟨W.heap.size + 2, 0, none⟩), .pointer (some ⟨W.heap.size + 2 + 2, 0, none⟩)], .string p, undef, undef, undef, undef, undef, undef, undef, undef, undef, undef, undef, undef, undef, undef, undef, undef], defers := [] }) ?assign ?body ?done ?stop
  case hI =>
    have hz : ∀ r, row = some r → W.heap.size + 2 ≤ r ∧ r < W.heap.size + 7 := fun r e => by rcases hr r e with (rfl | rfl | rfl) | h <;> omega
    refine ⟨HJ.out.1 _ _ _ row hs.1 hg (fun r e => (hZ r).2 (by have := hz r e; omega)), (hg.block _ (Array.getElem?_eq_some_iff.1 hs.2.1).1 (fun e => by have := hz _ e.symm; omega)).trans hs.2.1, (hg.block _ (Array.getElem?_eq_some_iff.1 hs.2.2).1 (fun e => by have := hz _ e.symm; omega)).trans hs.2.2⟩
  case hIx =>
    have hz : ∀ r, row = some r → W.heap.size + 2 ≤ r ∧ r < W.heap.size + 7 := fun r e => by rcases hr r e with (rfl | rfl | rfl) | h <;> omega
    obtain ⟨h1, q, h2, h3⟩ := hs
    exact ⟨h1, q, h2, HJ.out.2 _ _ _ row h3 hg (fun r e => (hZ r).2 (by have := hz r e; omega))⟩
  case assign =>
    intro l' p W' K hK
    gi_wp2
    exact hK
  case body =>
    rintro l' pre p W1 ⟨hj, hy1, hn1⟩ hbig hSp
    have cn1 : W1.cell? ⟨W.heap.size + 1, 0, none⟩ = some (.int .i64 (pre.length : Int)) := cell_of_row _ _ _ _ _ _ hn1
    have qf := thaw_row 0 hn1
    have hpl : pre.length ≤ 1000000 := by
      obtain ⟨c, hc⟩ := hSp
      have h := pcs_many 10 x
      rw [← hc] at h
      simp only [List.length_append, List.length_singleton] at h
      omega
    obtain ⟨N, hN⟩ : ∃ N, N = pre.length := ⟨_, rfl⟩
    rw [← hN] at cn1
    have hw1 : wrap64 ((N : Int) + 1) = (N : Int) + 1 := by rw [hN]; unfold wrap64; omega
    have hn6 : (W1.setCell ⟨W.heap.size + 1, 0, none⟩ (.int .i64 ((N : Int) + 1))).heap[W.heap.size + 1]? = some (.cells #[.int .i64 ((N : Int) + 1)] 3 (0, 0)) := heap_setCell_same W1 _ 0 #[.int .i64 (pre.length : Int)] 3 _ hn1
    have hy6 : (W1.setCell ⟨W.heap.size + 1, 0, none⟩ (.int .i64 ((N : Int) + 1))).heap[W.heap.size]? = some (.cells #[.func (.yield l) #[] #[]] 78 (0, 0)) := (Below.heap_setCell W1 ⟨W.heap.size + 1, 0, none⟩ _ W.heap.size (by simp)).trans hy1
    have cn6 : (W1.setCell ⟨W.heap.size + 1, 0, none⟩ (.int .i64 ((N : Int) + 1))).cell? ⟨W.heap.size + 1, 0, none⟩ = some (.int .i64 ((N : Int) + 1)) := cell_of_row _ _ _ _ _ _ hn6
    have cy6 : (W1.setCell ⟨W.heap.size + 1, 0, none⟩ (.int .i64 ((N : Int) + 1))).cell? ⟨W.heap.size, 0, none⟩ = some (.func (.yield l) #[] #[]) := cell_of_row _ _ _ _ _ _ hy6
    have hj6 : J (fltB 0 pre) (W1.setCell ⟨W.heap.size + 1, 0, none⟩ (.int .i64 ((N : Int) + 1))) := HJ.out.1 _ _ _ (some (W.heap.size + 1)) hj (grown_set W1 _ _) (fun r e => by cases e; exact (hZ _).2 (by omega))
    have hk6 : ∀ q, q ≠ W.heap.size + 1 → (W1.setCell ⟨W.heap.size + 1, 0, none⟩ (.int .i64 ((N : Int) + 1))).heap[q]? = W1.heap[q]? := fun q hq => Below.heap_setCell W1 ⟨W.heap.size + 1, 0, none⟩ _ q hq
    have hz6 : (W1.setCell ⟨W.heap.size + 1, 0, none⟩ (.int .i64 ((N : Int) + 1))).heap.size = W1.heap.size := by simp
    have hkz : KeptZ (fun r => (r = W.heap.size + 2 ∨ r = W.heap.size + 2 + 1 ∨ r = W.heap.size + 2 + 2) ∨ (W5.heap.size ≤ r ∧ r < W5.heap.size + 2 + 0)) W1 (W1.setCell ⟨W.heap.size + 1, 0, none⟩ (.int .i64 ((N : Int) + 1))) := fun r o hr h => (hk6 r (by rcases hr with (rfl | rfl | rfl) | h <;> omega)).trans h
    have hcast : ((N : Int) + 1) = ((pre.length + 1 : Nat) : Int) := by rw [hN]; rfl
    have HC := Lib.hid hcast
    have HB := Lib.hid (And.intro hj6 (And.intro hn6 (And.intro hy6 (And.intro hkz hz6))))
    have HSp := Lib.hid hSp
    have hyo := fun (h : saysB p = true) => HY.out (fltB 0 pre) (pre.length + 1, p) (W1.setCell ⟨W.heap.size + 1, 0, none⟩ (.int .i64 ((N : Int) + 1))) hj6 (fun r hr => by have := (hZ r).1 hr; rw [hz6]; omega) (by rw [← flt_yes h]; exact flt_pre hSp) 6
    simp only [← hcast] at hyo
    have HNo := Lib.hid (fun (h : saysB p = false) => show KeptZ _ W1 (W1.setCell ⟨W.heap.size + 1, 0, none⟩ (.int .i64 ((N : Int) + 1))) ∧ J (fltB 0 (pre ++ [p])) (W1.setCell ⟨W.heap.size + 1, 0, none⟩ (.int .i64 ((N : Int) + 1))) ∧ (W1.setCell ⟨W.heap.size + 1, 0, none⟩ (.int .i64 ((N : Int) + 1))).heap[W.heap.size]? = some (.cells #[.func (.yield l) #[] #[]] 78 (0, 0)) ∧ (W1.setCell ⟨W.heap.size + 1, 0, none⟩ (.int .i64 ((N : Int) + 1))).heap[W.heap.size + 1]? = some (.cells #[.int .i64 ((pre ++ [p]).length : Int)] 3 (0, 0)) from
      ⟨hkz, by rw [flt_no h]; exact hj6, hy6, by rw [List.length_append, List.length_singleton, ← hcast]; exact hn6⟩)
    clear hN hj6 hn6 hy6 hk6 hz6 hj hy1 hn1 hSp hpl hkz hcast
    by_cases hp0 : 0 < p.size
    · have hpe : p.toList.isEmpty = false := says_ne hp0
      have hsy := says_at hp0
      by_cases hc : ((p[0]'hp0).toNat : Int) = 35
      · have hcv : (((p[0]'hp0).toNat : Int) != 35) = false := by simp [hc]
        have hs0 : saysB p = false := by rw [hsy, hcv]
        clear hyo
        gi_wp2
        refine ⟨fun _ h => (by cases h), ?_⟩
        gi_wp2
        exact HNo.out hs0
      · have hcv : (((p[0]'hp0).toNat : Int) != 35) = true := by simp [hc]
        have hs1 : saysB p = true := by rw [hsy, hcv]
        obtain ⟨fn, tmps, assign, body, hy, hR⟩ := hyo hs1
        have HR := Lib.hid hR
        clear hR hyo
        gi_wp2
        refine RoundIn.mono (F := Fence.wide.inRound l') HR.out ?_
        have hsub : ∀ r, ((r = W.heap.size + 2 ∨ r = W.heap.size + 2 + 1 ∨ r = W.heap.size + 2 + 2) ∨ (W5.heap.size ≤ r ∧ r < W5.heap.size + 2 + 0)) → Z r := fun r hr => (hZ r).2 (by rcases hr with (rfl | rfl | rfl) | h <;> omega)
        rintro e W3 (⟨rfl, hJ3, hk3⟩ | ⟨rfl, hJ3, hk3⟩)
        · have H3 := Lib.hid (And.intro hJ3 hk3)
          clear hJ3 hk3
          dsimp only
          gi_wp2
          exact ⟨HB.out.2.2.2.1.trans (H3.out.2.sub hsub), by rw [flt_yes hs1]; exact H3.out.1, H3.out.2 _ _ ((hZ _).2 (by omega)) HB.out.2.2.1, by rw [List.length_append, List.length_singleton, ← HC.out]; exact H3.out.2 _ _ ((hZ _).2 (by omega)) HB.out.2.1⟩
        · have H3 := Lib.hid (And.intro hJ3 hk3)
          clear hJ3 hk3
          dsimp only
          gi_wp2
          exact ⟨HB.out.2.2.2.1.trans (H3.out.2.sub hsub), rfl, _, by rw [← flt_yes hs1]; exact flt_pre HSp.out, H3.out.1⟩
    · have hpe : p.toList.isEmpty = true := says_nil (by omega)
      have hs0 : saysB p = false := says_no (by omega)
      clear hyo
      gi_wp2
      refine ⟨fun _ h => (by cases h), ?_⟩
      gi_wp2
      exact HNo.out hs0
  case done =>
    rintro ys W' rfl ⟨hj, _, _⟩ hK
    gi_wp2
    refine ⟨by simp, .inl ⟨_, _, rfl, run_takeDeferred hK, ?_⟩⟩
    exact ⟨_, results_none rfl _ _ _, ⟨_, rfl⟩, .inl ⟨_, rfl, HJ.out.1 _ _ _ (some W5.heap.size) hj (grownBy_putObj' _ _ _) (fun r e => by cases e; exact (hZ _).2 (by omega))⟩⟩
  case stop =>
    rintro c pre W' hSp ⟨rfl, q, hq, hx⟩ hK
    gi_wp2
    refine ⟨by simp, .inl ⟨_, _, rfl, run_takeDeferred hK, ?_⟩⟩
    exact ⟨_, results_none rfl _ _ _, ⟨_, rfl⟩, .inr ⟨q, hq, HJ.out.2 _ _ _ (some W5.heap.size) hx (grownBy_putObj' _ _ _) (fun r e => by cases e; exact (hZ _).2 (by omega))⟩⟩
end Go.Proofs.YtjjlodeiejobdaaDoor
namespace Go.Proofs.YtjjlodeiejobdaaDoor
open Go.RowKit Go.Shelf Go.Deep
attribute [local go_sem] Oper.semAt_some
theorem ln_stops (n Bt : Nat) (x : ByteArray) (hxs : x.size ≤ 1000000) (w : World) (ht : w.heap[Bt]? = some (.cells #[.string x] 9 (0, 0))) :
    SeqZ Fence.wide n Tryd.prog 38 #[.pointer (some ⟨Bt, 0, none⟩)] (fun p : Nat × ByteArray => #[Value.int .i64 (p.1 : Int), .string p.2]) (fun _ => False) 7 (fun ys => ys = fltB 0 (pcsB 10 x)) (fun pre => pre <+: fltB 0 (pcsB 10 x)) w := by
  intro l J Jx W Z hZ hW hJ hJx hY h0
  have h := ln_in l Bt x hxs Z J Jx W (fun r => by rw [hZ r]; simp) hJ hJx (fun pre p W1 hj hz hp m => by
    obtain ⟨fn, tmps, assign, body, hy, hR⟩ := hY pre p W1 hj hz hp
    exact ⟨fn, tmps, assign, body, hy, round_any rfl hR⟩) ((hW.block Bt (Array.getElem?_eq_some_iff.1 ht).1).trans ht) h0
  exact callsIn_wide.2 (callsIn_wide.1 h)
theorem lines_in (n : Nat) (x : ByteArray) (w : World) :
    CallsIn Fence.wide n Tryd.prog 21 #[.string x] w fun e w' => e = .returned (.func (.func 38) #[] #[.pointer (some ⟨w.heap.size, 0, none⟩)]) ∧ w' = w.alloc (.cells #[.string x] 9) := by
  refine callsIn_of_wp Tryd.func21 rfl trivial ?_ rfl
  simp only [Tryd.ntmps21, List.size_toArray, List.length_cons, List.length_nil, Nat.reduceAdd, Nat.reduceSub, Array.replicate_succ, Array.replicate_zero, List.push_toArray, List.append_toArray, List.nil_append, List.cons_append]
  gi_wp2
  go_ret
  exact ⟨rfl, rfl⟩
section
variable {F : Fence} {n : Nat} {P : Program} {ops : Array Oper} {rest : List Oper} {op : Oper} {a : Act} {w : World} {Q : Exit → Act → World → Prop}
theorem wpListIn_load_row (hgd : op.guard = none) (ty : TypeId) (x : Operand) (ho : op.op = .load ty x)
    (b o : Nat) (hx : a.eval x = .pointer (some ⟨b, o, none⟩)) (cs : List Value) (d : TypeDesc) (hc : w.rangeAt b o cs) (hu : P.underlying ty = some d) (hd : d.isRow = true) (hi : (P.info? ty).map (·.size) = some cs.length)
    (h : wpListIn F n P ops Q rest (a.put op.dst (.agg cs.toArray)) w) : wpListIn F n P ops Q (op :: rest) a w := by
  refine wpListIn_plain hgd fun K hK => ?_
  unfold Oper.wpIn
  refine ⟨by simp [Oper.about, ho], ?_⟩
  rw [Oper.semAt_plain F _ _ (by rw [ho]; intro c hc'; cases hc')]
  simp only [execOp, ho, hx, Instr.loadAt, Instr.sureAddr, Sem.run_bind, Sem.run_pure, Result.andThen_ok, run_loadVar_mid w b o ty cs d hc hu hd hi]
  exact hK _ _ h
theorem wpListIn_store_row (hgd : op.guard = none) (ty : TypeId) (x y : Operand) (ho : op.op = .store ty x y)
    (b o : Nat) (cells : Array Value) (hx : a.eval x = .pointer (some ⟨b, o, none⟩)) (hy : a.eval y = .agg cells)
    (ht : w.there b o cells.size) (hi : (P.info? ty).map (·.size) = some cells.size) (h1 : cells.all (·.oneCell') = true)
    (h : wpListIn F n P ops Q rest (a.put op.dst undef) (w.setCells b o cells.toList)) : wpListIn F n P ops Q (op :: rest) a w := by
  refine wpListIn_plain hgd fun K hK => ?_
  unfold Oper.wpIn
  refine ⟨by simp [Oper.about, ho], ?_⟩
  rw [Oper.semAt_plain F _ _ (by rw [ho]; intro c hc'; cases hc')]
  simp only [execOp, ho, hx, hy, Instr.storeAt, Instr.sureAddr, Sem.run_bind, Sem.run_pure, Result.andThen_ok, run_storeVar_mid w b o ty cells ht hi h1]
  exact hK _ _ h
end
/-- What Parse tells. -/
def prsL : List (Nat × ByteArray) → List StpV → List StpV × Nat × Nat
  | [], acc => (acc, 0, 0)
  | (n, p) :: r, acc => match rdL p.data.toList with
    | none => ([], n, 4)
    | some s => if acc.length = 400 then ([], n, 6) else prsL r (acc ++ [s])
theorem flt_mem : ∀ {i : Nat} {l : List ByteArray} {p : Nat × ByteArray}, p ∈ fltB i l → p.2 ∈ l
  | i, q :: r, p, h => by
    have h : p ∈ (if saysB q then (i + 1, q) :: fltB (i + 1) r else fltB (i + 1) r) := h
    split at h
    · rcases List.mem_cons.1 h with rfl | h
      · exact List.mem_cons_self ..
      · exact List.mem_cons_of_mem _ (flt_mem h)
    · exact List.mem_cons_of_mem _ (flt_mem h)
def flatS (l : List StpV) : List Value := l.flatMap stpC
theorem flatS_snoc (l : List StpV) (s : StpV) : flatS (l ++ [s]) = flatS l ++ stpC s := by simp [flatS]
def StV (w : World) (v : Value) (l : List StpV) : Prop := ∃ a c, v = .slice a l.length c ∧ SliceAt 11 stpC w a l.length l
def PrsR (R : List StpV × Nat × Nat) (w : World) (e : Ending) (w' : World) : Prop := Below w.heap.size w w' ∧ ∃ v, e = .returned (.tuple #[v, .int .i64 (R.2.1 : Int), .int .i64 (R.2.2 : Int)]) ∧ StV w' v R.1
theorem own_z {A B : World} {base k n : Nat} {e : TypeId} {v : Value} {xs : List Value} {row : Option Nat} (h : A.ownsRow base e k v n xs) (hg : A.grownBy B row) (hr : ∀ r, row = some r → r < base) : B.ownsRow base e k v n xs := by
  obtain ⟨h1, h2⟩ := h
  refine ⟨h1, h2.imp id ?_⟩
  rintro ⟨g, cap, cur, hv, hb, hq, r⟩
  exact ⟨g, cap, cur, hv, hb, (hg.block g (Array.getElem?_eq_some_iff.1 hq).1 (fun q => by have := hr g q.symm; omega)).trans hq, r⟩
/-- Between two rounds. -/
structure PrI (w : World) (all : List (Nat × ByteArray)) (pre : List (Nat × ByteArray)) (W : World) (acc : List StpV) (v : Value) : Prop where
  spec : prsL all [] = prsL (all.drop pre.length) acc
  len : acc.length ≤ 400
  r0 : W.heap[w.heap.size]? = some (.cells #[.slice none 0 0] 22 (0, 0))
  r1 : W.heap[w.heap.size + 1]? = some (.cells #[.int .i64 0] 3 (0, 0))
  r2 : W.heap[w.heap.size + 2]? = some (.cells #[.int .i64 0] 25 (0, 0))
  r3 : W.heap[w.heap.size + 3]? = some (.cells #[v] 22 (0, 0))
  own : W.ownsRow (w.heap.size + 14) 39 11 v acc.length (flatS acc)
  bel : Below w.heap.size w W
/-- A round has left. -/
def PrX (w : World) (all : List (Nat × ByteArray)) (W : World) : Prop := ∃ n e : Nat, prsL all [] = ([], n, e) ∧ W.heap[w.heap.size]? = some (.cells #[.slice none 0 0] 22 (0, 0)) ∧ W.heap[w.heap.size + 1]? = some (.cells #[.int .i64 (n : Int)] 3 (0, 0)) ∧ W.heap[w.heap.size + 2]? = some (.cells #[.int .i64 (e : Int)] 25 (0, 0)) ∧ Below w.heap.size w W
theorem PrI.turn {w A B : World} {all pre : List (Nat × ByteArray)} {acc : List StpV} {v : Value} {row : Option Nat} (h : PrI w all pre A acc v) (hg : A.grownBy B row) (hr : ∀ r, row = some r → w.heap.size + 4 ≤ r ∧ r < w.heap.size + 14) : PrI w all pre B acc v := by
  have up : ∀ {q : Nat} {o : Obj}, A.heap[q]? = some o → q < w.heap.size + 4 → B.heap[q]? = some o := fun {q o} h hq => (hg.block q (Array.getElem?_eq_some_iff.1 h).1 (fun e => by have := hr q e.symm; omega)).trans h
  exact ⟨h.spec, h.len, up h.r0 (by omega), up h.r1 (by omega), up h.r2 (by omega), up h.r3 (by omega), own_z h.own hg (fun r e => (hr r e).2), h.bel.trans ⟨hg.os, hg.tape, hg.output, hg.size, fun q hq => hg.block q (Nat.lt_of_lt_of_le hq h.bel.size) (fun e => by have := hr q e.symm; omega)⟩⟩
theorem PrI.blw {w A B : World} {all pre : List (Nat × ByteArray)} {acc : List StpV} {v : Value} (h : PrI w all pre A acc v) (hb : Below A.heap.size A B) : PrI w all pre B acc v := by
  have up : ∀ {q : Nat} {o : Obj}, A.heap[q]? = some o → B.heap[q]? = some o := fun {q o} h => (hb.block q (Array.getElem?_eq_some_iff.1 h).1).trans h
  exact ⟨h.spec, h.len, up h.r0, up h.r1, up h.r2, up h.r3, own_blw h.own hb, h.bel.trans (hb.mono h.bel.size)⟩
structure PrC (w W : World) (v : Value) : Prop where
  c0 : W.cell? ⟨w.heap.size, 0, none⟩ = some (.slice none 0 0)
  f0 : W.frozen? ⟨w.heap.size, 0, none⟩ = false
  c1 : W.cell? ⟨w.heap.size + 1, 0, none⟩ = some (.int .i64 0)
  f1 : W.frozen? ⟨w.heap.size + 1, 0, none⟩ = false
  c2 : W.cell? ⟨w.heap.size + 2, 0, none⟩ = some (.int .i64 0)
  f2 : W.frozen? ⟨w.heap.size + 2, 0, none⟩ = false
  c3 : W.cell? ⟨w.heap.size + 3, 0, none⟩ = some v
  f3 : W.frozen? ⟨w.heap.size + 3, 0, none⟩ = false
theorem PrI.cells {w W : World} {all pre : List (Nat × ByteArray)} {acc : List StpV} {v : Value} (h : PrI w all pre W acc v) : PrC w W v :=
  ⟨cell_of_row _ _ _ _ _ _ h.r0, thaw_row 0 h.r0, cell_of_row _ _ _ _ _ _ h.r1, thaw_row 0 h.r1, cell_of_row _ _ _ _ _ _ h.r2, thaw_row 0 h.r2, cell_of_row _ _ _ _ _ _ h.r3, thaw_row 0 h.r3⟩
theorem PrI.leave {w W : World} {all pre : List (Nat × ByteArray)} {acc : List StpV} {v : Value} (h : PrI w all pre W acc v) {n e : Nat} (hs : prsL all [] = ([], n, e)) :
    KeptZ (fun r => w.heap.size + 4 ≤ r) W (((W.setCell ⟨w.heap.size, 0, none⟩ (.slice none 0 0)).setCell ⟨w.heap.size + 1, 0, none⟩ (.int .i64 (n : Int))).setCell ⟨w.heap.size + 2, 0, none⟩ (.int .i64 (e : Int))) ∧
    PrX w all (((W.setCell ⟨w.heap.size, 0, none⟩ (.slice none 0 0)).setCell ⟨w.heap.size + 1, 0, none⟩ (.int .i64 (n : Int))).setCell ⟨w.heap.size + 2, 0, none⟩ (.int .i64 (e : Int))) := by
  have k1 : ∀ (y : World) (g : Nat) (u : Value) (q : Nat), q ≠ g → (y.setCell ⟨g, 0, none⟩ u).heap[q]? = y.heap[q]? := fun y g u q hq => Below.heap_setCell y ⟨g, 0, none⟩ u q hq
  refine ⟨fun r o hr ho => ?_, n, e, hs, ?_, ?_, ?_, ?_⟩
  · have hr : w.heap.size + 4 ≤ r := hr
    rw [k1 _ _ _ _ (by omega), k1 _ _ _ _ (by omega), k1 _ _ _ _ (by omega)]
    exact ho
  · rw [k1 _ _ _ _ (by omega), k1 _ _ _ _ (by omega)]
    exact heap_setCell_same W _ 0 _ _ _ h.r0
  · rw [k1 _ _ _ _ (by omega)]
    exact heap_setCell_same _ _ 0 #[.int .i64 0] _ _ ((k1 _ _ _ _ (by omega)).trans h.r1)
  · exact heap_setCell_same _ _ 0 #[.int .i64 0] _ _ ((k1 _ _ _ _ (by omega)).trans ((k1 _ _ _ _ (by omega)).trans h.r2))
  · exact ((h.bel.setCell (p := ⟨w.heap.size, 0, none⟩) (Nat.le_refl _) _).setCell (p := ⟨w.heap.size + 1, 0, none⟩) (by simp) _).setCell (p := ⟨w.heap.size + 2, 0, none⟩) (by simp) _
theorem PrI.fin {w W : World} {all : List (Nat × ByteArray)} {acc : List StpV} {A : Option Addr} {c D : Nat} (h : PrI w all all W acc (.slice A acc.length c)) (hD : w.heap.size + 4 ≤ D ∧ D < w.heap.size + 14) (hK : W.heap[D]? = some (.deferred (some []))) :
    (((W.setCell ⟨w.heap.size, 0, none⟩ (.slice A acc.length c)).setCell ⟨w.heap.size + 1, 0, none⟩ (.int .i64 0)).setCell ⟨w.heap.size + 2, 0, none⟩ (.int .i64 0)).heap[D]? = some (.deferred (some [])) ∧
    ∃ Y : World, Y = (((W.setCell ⟨w.heap.size, 0, none⟩ (.slice A acc.length c)).setCell ⟨w.heap.size + 1, 0, none⟩ (.int .i64 0)).setCell ⟨w.heap.size + 2, 0, none⟩ (.int .i64 0)).putObj D (.deferred none) ∧
      Y.cell? ⟨w.heap.size, 0, none⟩ = some (.slice A acc.length c) ∧ Y.cell? ⟨w.heap.size + 1, 0, none⟩ = some (.int .i64 0) ∧ Y.cell? ⟨w.heap.size + 2, 0, none⟩ = some (.int .i64 0) ∧
      PrsR (prsL all []) w (.returned (.tuple #[.slice A acc.length c, .int .i64 0, .int .i64 0])) Y := by
  have k1 : ∀ (y : World) (g : Nat) (u : Value) (q : Nat), q ≠ g → (y.setCell ⟨g, 0, none⟩ u).heap[q]? = y.heap[q]? := fun y g u q hq => Below.heap_setCell y ⟨g, 0, none⟩ u q hq
  have kp : ∀ (y : World) (o : Obj) (q : Nat), q ≠ D → (y.putObj D o).heap[q]? = y.heap[q]? := fun y o q hq => World.putObj_heap_other (fun e => hq (by first | exact e | exact e.symm))
  have hb1 : Below w.heap.size w (((W.setCell ⟨w.heap.size, 0, none⟩ (.slice A acc.length c)).setCell ⟨w.heap.size + 1, 0, none⟩ (.int .i64 0)).setCell ⟨w.heap.size + 2, 0, none⟩ (.int .i64 0)) := ((h.bel.setCell (p := ⟨w.heap.size, 0, none⟩) (Nat.le_refl _) _).setCell (p := ⟨w.heap.size + 1, 0, none⟩) (by simp) _).setCell (p := ⟨w.heap.size + 2, 0, none⟩) (by simp) _
  refine ⟨?_, _, rfl, ?_, ?_, ?_, ?_⟩
  · rw [k1 _ _ _ _ (by omega), k1 _ _ _ _ (by omega), k1 _ _ _ _ (by omega)]; exact hK
  · refine cell_of_row _ _ _ #[.slice A acc.length c] 22 (0, 0) ?_
    rw [kp _ _ _ (by omega), k1 _ _ _ _ (by omega), k1 _ _ _ _ (by omega)]
    exact heap_setCell_same W _ 0 #[.slice none 0 0] _ _ h.r0
  · refine cell_of_row _ _ _ #[.int .i64 0] 3 (0, 0) ?_
    rw [kp _ _ _ (by omega), k1 _ _ _ _ (by omega)]
    exact heap_setCell_same _ _ 0 #[.int .i64 0] _ _ ((k1 _ _ _ _ (by omega)).trans h.r1)
  · refine cell_of_row _ _ _ #[.int .i64 0] 25 (0, 0) ?_
    rw [kp _ _ _ (by omega)]
    exact heap_setCell_same _ _ 0 #[.int .i64 0] _ _ ((k1 _ _ _ _ (by omega)).trans ((k1 _ _ _ _ (by omega)).trans h.r2))
  · have hspec : prsL all [] = (acc, 0, 0) := by rw [h.spec, List.drop_length]; rfl
    rw [hspec]
    refine ⟨hb1.trans ⟨rfl, rfl, rfl, by simp, fun q hq => kp _ _ _ (by omega)⟩, _, rfl, A, c, rfl, ?_⟩
    have ho := own_z (row := some D) (own_z (row := some (w.heap.size + 2)) (own_z (row := some (w.heap.size + 1)) (own_z (row := some w.heap.size) h.own (grown_set W _ (.slice A acc.length c)) (fun r e => by cases e; omega)) (grown_set _ _ (.int .i64 0)) (fun r e => by cases e; omega)) (grown_set _ _ (.int .i64 0)) (fun r e => by cases e; omega)) (grownBy_putObj' _ D (.deferred none)) (fun r e => by cases e; exact hD.2)
    exact own_slice (enc := stpC) (fun _ => rfl) ho rfl (Nat.le_trans (show acc.length ≤ 400 from h.len) (by decide))
theorem PrX.fin {w W : World} {all : List (Nat × ByteArray)} {D : Nat} (h : PrX w all W) (hD : w.heap.size + 4 ≤ D) :
    ∃ (Y : World) (n e : Nat), Y = W.putObj D (.deferred none) ∧ Y.cell? ⟨w.heap.size, 0, none⟩ = some (.slice none 0 0) ∧ Y.cell? ⟨w.heap.size + 1, 0, none⟩ = some (.int .i64 (n : Int)) ∧ Y.cell? ⟨w.heap.size + 2, 0, none⟩ = some (.int .i64 (e : Int)) ∧
      PrsR (prsL all []) w (.returned (.tuple #[.slice none 0 0, .int .i64 (n : Int), .int .i64 (e : Int)])) Y := by
  obtain ⟨n, e, h1, h2, h3, h4, h5⟩ := h
  have kp : ∀ (y : World) (o : Obj) (q : Nat), q ≠ D → (y.putObj D o).heap[q]? = y.heap[q]? := fun y o q hq => World.putObj_heap_other (fun e => hq (by first | exact e | exact e.symm))
  refine ⟨_, n, e, rfl, cell_of_row _ _ _ _ _ _ ((kp _ _ _ (by omega)).trans h2), cell_of_row _ _ _ _ _ _ ((kp _ _ _ (by omega)).trans h3), cell_of_row _ _ _ _ _ _ ((kp _ _ _ (by omega)).trans h4), ?_⟩
  rw [h1]
  exact ⟨h5.trans ⟨rfl, rfl, rfl, by simp, fun q hq => kp _ _ _ (by omega)⟩, _, rfl, none, 0, rfl, rfl, Nat.zero_le _, fun i x hx => by simp at hx⟩
theorem infoT : (Tryd.prog.info? 39).map (fun i => (i.zero, i.size, i.bytes)) = some (some (.agg (stpC (stp0 0 0)).toArray), 11, 88) := by kernel_rfl
theorem cells_newS (w : World) (cs : List Value) (t : TypeId) : ∀ j u, cs[j]? = some u → (w.alloc (.cells cs.toArray t)).cell? ((⟨w.heap.size, 0, none⟩ : Addr).add j) = some u := by
  intro j u hj
  rw [WideShapes.add_plain]
  show (w.alloc (.cells cs.toArray t)).cell? ⟨w.heap.size, 0 + j, none⟩ = _
  rw [World.cell?_alloc_new]
  simpa using hj
theorem PrI.next {w W W4 : World} {all pre : List (Nat × ByteArray)} {p : Nat × ByteArray} {acc : List StpV} {s : StpV} {v v4 : Value} {o : Obj} (h : PrI w all pre W acc v) (hs : prsL (all.drop pre.length) acc = prsL (all.drop (pre ++ [p]).length) (acc ++ [s])) (hl : acc.length ≠ 400)
    (hown : W4.ownsRow (w.heap.size + 14) 39 11 v4 (acc.length + 1) (flatS acc ++ stpC s)) (hg : (W.alloc o).grownBy W4 v.ownBlock) (hbig : w.heap.size + 14 ≤ W.heap.size) :
    KeptZ (fun r => w.heap.size + 4 ≤ r ∧ r < w.heap.size + 14) W (W4.setCell ⟨w.heap.size + 3, 0, none⟩ v4) ∧ PrI w all (pre ++ [p]) (W4.setCell ⟨w.heap.size + 3, 0, none⟩ v4) (acc ++ [s]) v4 := by
  have hge := fun k hk => (World.ownsRow.lt h.own k hk).1
  have up : ∀ {q : Nat} {o' : Obj}, q < w.heap.size + 14 → W.heap[q]? = some o' → W4.heap[q]? = some o' := fun {q o'} hq h' => (hg.block q (by simp; omega) (fun e => by have := hge q e.symm; omega)).trans ((Below.heap_alloc _ _ _ (by omega)).trans h')
  have k1 : ∀ (q : Nat), q ≠ w.heap.size + 3 → (W4.setCell ⟨w.heap.size + 3, 0, none⟩ v4).heap[q]? = W4.heap[q]? := fun q hq => Below.heap_setCell W4 ⟨w.heap.size + 3, 0, none⟩ v4 q hq
  have hb4 : Below w.heap.size w W4 := by
    have hb := h.bel.alloc h.bel.size o
    exact hb.trans ⟨hg.os, hg.tape, hg.output, hg.size, fun q hq => hg.block q (Nat.lt_of_lt_of_le hq hb.size) (fun e => by have := hge q e.symm; omega)⟩
  refine ⟨fun r o' hr ho => (k1 r (by have hr : w.heap.size + 4 ≤ r ∧ r < w.heap.size + 14 := hr; omega)).trans (up (by have hr : w.heap.size + 4 ≤ r ∧ r < w.heap.size + 14 := hr; omega) ho), h.spec.trans hs, ?_, ?_, ?_, ?_, ?_, ?_, ?_⟩
  · have := h.len; rw [List.length_append, List.length_singleton]; omega
  · exact (k1 _ (by omega)).trans (up (by omega) h.r0)
  · exact (k1 _ (by omega)).trans (up (by omega) h.r1)
  · exact (k1 _ (by omega)).trans (up (by omega) h.r2)
  · exact heap_setCell_same W4 _ 0 #[v] _ _ (up (by omega) h.r3)
  · rw [List.length_append, List.length_singleton, flatS_snoc]
    exact own_z (row := some (w.heap.size + 3)) hown (grown_set W4 _ _) (fun r e => by cases e; omega)
  · exact hb4.setCell (p := ⟨w.heap.size + 3, 0, none⟩) (by simp) _
theorem grow_size {B : Nat} {a b : World} {o : Obj} (h : B ≤ a.heap.size) (h2 : a.heap.size ≤ b.heap.size) : B ≤ (b.alloc o).heap.size := by
  rw [World.size_alloc]; omega
theorem own_slc {w : World} {base : Nat} {e : TypeId} {k : Nat} {v : Value} {n : Nat} {xs : List Value} (h : w.ownsRow base e k v n xs) : ∃ A c, v = .slice A n c := by
  rcases h.2 with ⟨rfl, rfl⟩ | ⟨g, cap, cur, rfl, _⟩
  · exact ⟨none, 0, rfl⟩
  · exact ⟨_, _, rfl⟩
theorem PrX.turn {w A B : World} {all : List (Nat × ByteArray)} {row : Option Nat} (h : PrX w all A) (hg : A.grownBy B row) (hr : ∀ r, row = some r → w.heap.size + 4 ≤ r) : PrX w all B := by
  obtain ⟨n, e, h1, h2, h3, h4, h5⟩ := h
  have up : ∀ {q : Nat} {o : Obj}, A.heap[q]? = some o → q < w.heap.size + 4 → B.heap[q]? = some o := fun {q o} h hq => (hg.block q (Array.getElem?_eq_some_iff.1 h).1 (fun e => by have := hr q e.symm; omega)).trans h
  exact ⟨n, e, h1, up h2 (by omega), up h3 (by omega), up h4 (by omega), h5.trans ⟨hg.os, hg.tape, hg.output, hg.size, fun q hq => hg.block q (Nat.lt_of_lt_of_le hq h5.size) (fun e => by have := hr q e.symm; omega)⟩⟩
theorem prs_bad {all pre : List (Nat × ByteArray)} {x : Nat × ByteArray} {acc : List StpV} (h : (pre ++ [x]) <+: all) (hr : rdL x.2.data.toList = none) : prsL (all.drop pre.length) acc = ([], x.1, 4) := by
  obtain ⟨c, rfl⟩ := h
  rw [List.append_assoc, List.drop_left]
  show (match rdL x.2.data.toList with | none => _ | some s => _) = _
  rw [hr]
theorem prs_full {all pre : List (Nat × ByteArray)} {x : Nat × ByteArray} {acc : List StpV} {s : StpV} (h : (pre ++ [x]) <+: all) (hr : rdL x.2.data.toList = some s) (hl : acc.length = 400) : prsL (all.drop pre.length) acc = ([], x.1, 6) := by
  obtain ⟨c, rfl⟩ := h
  rw [List.append_assoc, List.drop_left]
  show (match rdL x.2.data.toList with | none => _ | some s => _) = _
  rw [hr]
  exact if_pos hl
theorem prs_next {all pre : List (Nat × ByteArray)} {x : Nat × ByteArray} {acc : List StpV} {s : StpV} (h : (pre ++ [x]) <+: all) (hr : rdL x.2.data.toList = some s) (hl : acc.length ≠ 400) : prsL (all.drop pre.length) acc = prsL (all.drop (pre ++ [x]).length) (acc ++ [s]) := by
  obtain ⟨c, rfl⟩ := h
  rw [List.drop_left, List.append_assoc, List.drop_left]
  show (match rdL x.2.data.toList with | none => _ | some s => _) = _
  rw [hr]
  exact if_neg hl
end Go.Proofs.YtjjlodeiejobdaaDoor
namespace Go.Proofs.YtjjlodeiejobdaaDoor
open Go.RowKit Go.Shelf Go.Deep
attribute [local go_sem] Oper.semAt_some
set_option maxRecDepth 100000 in
set_option maxHeartbeats 16000000 in
theorem Parse_in (x : ByteArray) (hxs : x.size ≤ 1000000) (w : World) (hv : PV w) :
    CallsIn Fence.wide 9 Tryd.prog 11 #[.string x] w (PrsR (prsL (fltB 0 (pcsB 10 x)) []) w) := by
  have HPV := Lib.hid (PVB.of hv)
  clear hv
  refine callsIn_of_wp_marks Tryd.func11 rfl trivial ?_ rfl
  simp only [Tryd.ntmps11, List.size_toArray, List.length_cons, List.length_nil, Nat.reduceAdd, Nat.reduceSub, Array.replicate_succ, Array.replicate_zero, List.push_toArray, List.append_toArray, List.nil_append, List.cons_append]
  gi_wp2_with (first
    | (refine ⟨trivial, ?_⟩; refine (lines_in _ _ _).mono ?_; rintro e w1 ⟨rfl, rfl⟩; dsimp only)
    | gi_in)
  simp only [World.size_alloc, Nat.add_assoc, Nat.reduceAdd]
  have e1 : (w.alloc (.cells #[.slice none 0 0] 22)).heap.size = w.heap.size + 1 := World.size_alloc _ _
  generalize hE1 : w.alloc (.cells #[.slice none 0 0] 22) = E1 at *
  have r0 : E1.heap[w.heap.size]? = some (.cells #[.slice none 0 0] 22 (0, 0)) := by rw [← hE1]; exact heap_alloc_new _ _
  have b1 : Below w.heap.size w E1 := by rw [← hE1]; exact (Below.refl _ _).alloc (Nat.le_refl _) _
  have e2 : (E1.alloc (.cells #[.int .i64 0] 3)).heap.size = w.heap.size + 2 := by rw [World.size_alloc, e1]
  have r1 : (E1.alloc (.cells #[.int .i64 0] 3)).heap[w.heap.size + 1]? = some (.cells #[.int .i64 0] 3 (0, 0)) := by rw [← e1]; exact heap_alloc_new _ _
  have b2 := (Below.refl E1.heap.size E1).alloc (Nat.le_refl _) (.cells #[.int .i64 0] 3)
  generalize E1.alloc (.cells #[.int .i64 0] 3) = E2 at *
  have e3 : (E2.alloc (.cells #[.int .i64 0] 25)).heap.size = w.heap.size + 3 := by rw [World.size_alloc, e2]
  have r2 : (E2.alloc (.cells #[.int .i64 0] 25)).heap[w.heap.size + 2]? = some (.cells #[.int .i64 0] 25 (0, 0)) := by rw [← e2]; exact heap_alloc_new _ _
  have b3 := (Below.refl E2.heap.size E2).alloc (Nat.le_refl _) (.cells #[.int .i64 0] 25)
  generalize E2.alloc (.cells #[.int .i64 0] 25) = E3 at *
  have e4 : (E3.alloc (.cells #[.slice none 0 0] 22)).heap.size = w.heap.size + 4 := by rw [World.size_alloc, e3]
  have r3 : (E3.alloc (.cells #[.slice none 0 0] 22)).heap[w.heap.size + 3]? = some (.cells #[.slice none 0 0] 22 (0, 0)) := by rw [← e3]; exact heap_alloc_new _ _
  have b4 := (Below.refl E3.heap.size E3).alloc (Nat.le_refl _) (.cells #[.slice none 0 0] 22)
  generalize E3.alloc (.cells #[.slice none 0 0] 22) = E4 at *
  have e5 : (E4.alloc (.cells #[.string x] 9)).heap.size = w.heap.size + 5 := by rw [World.size_alloc, e4]
  have r4 : (E4.alloc (.cells #[.string x] 9)).heap[w.heap.size + 4]? = some (.cells #[.string x] 9 (0, 0)) := by rw [← e4]; exact heap_alloc_new _ _
  have b5 := (Below.refl E4.heap.size E4).alloc (Nat.le_refl _) (.cells #[.string x] 9)
  generalize E4.alloc (.cells #[.string x] 9) = E5 at *
  have q4 := (b5.block (w.heap.size + 3) (by omega)).trans r3
  have b35 := b4.trans (b5.mono b4.size)
  have q3 := (b35.block (w.heap.size + 2) (by omega)).trans r2
  have b25 := b3.trans (b35.mono b3.size)
  have q2 := (b25.block (w.heap.size + 1) (by omega)).trans r1
  have b15 := b2.trans (b25.mono b2.size)
  have q1 := (b15.block (w.heap.size) (by omega)).trans r0
  have bA := b1.trans (b15.mono b1.size)
  have HI0 := Lib.hid (show PrI w (fltB 0 (pcsB 10 x)) [] E5 [] (.slice none 0 0) from ⟨rfl, Nat.zero_le _, q1, q2, q3, q4, World.ownsRow_nil _ _ _ _, bA⟩)
  have HPC := Lib.hid (fun (p : Nat × ByteArray) (pre : List (Nat × ByteArray)) (h : (pre ++ [p]) <+: fltB 0 (pcsB 10 x)) => show p.2.size ≤ 1000000 from Nat.le_trans (pcs_size (c := 10) (s := x) (flt_mem (h.subset (by simp)))) hxs)
  clear q1 q2 q3 q4 bA b15 b25 b35 b1 b2 b3 b4 b5 r0 r1 r2 r3 e1 e2 e3 e4 hE1
  clear E1 E2 E3 E4
  refine wpIn_rangeZ rfl (by decide) (gf := 38) (lb := #[.pointer (some ⟨w.heap.size + 4, 0, none⟩)]) rfl trivial (enters_of Tryd.func38 (by kernel_rfl) rfl)
    (ln_stops _ (w.heap.size + 4) x hxs E5 r4) (Below.refl _ _) (fun r hr => hr.elim) (fun _ => rfl)
    (Z := fun r => False ∨ (E5.heap.size ≤ r ∧ r < E5.heap.size + 2 + 7)) (fun _ => Iff.rfl)
    (fun pre W' => ∃ acc v, PrI w (fltB 0 (pcsB 10 x)) pre W' acc v)
    (fun c _ W' => c = .ret ∧ PrX w (fltB 0 (pcsB 10 x)) W')
    (fun s A B row hs hg hr => ?hI) (fun c s A B row hs hg hr => ?hIx) ⟨[], _, HI0.out⟩
    (fun p => { tmps := #[.string x, undef, .pointer (some ⟨w.heap.size, 0, none⟩), .pointer (some ⟨w.heap.size + 1, 0, none⟩), .pointer (some ⟨w.heap.size + 2, 0, none⟩), .pointer (some ⟨w.heap.size + 3, 0, none⟩), .int .i64 (p.1 : Int), .string p.2, undef, undef, .string x, .func (.func 38) #[] #[.pointer (some ⟨w.heap.size + 4, 0, none⟩)], .int .i64 (p.1 : Int), .string p.2, undef, undef, undef, undef, undef, undef, undef, undef, undef, undef, undef, undef, undef, undef, undef, undef, undef], defers := [] }) ?assign ?body ?done ?stop
  case hI =>
    have hz : ∀ r, row = some r → w.heap.size + 4 ≤ r ∧ r < w.heap.size + 14 := fun r e => by rcases hr r e with h | h; exact h.elim; omega
    obtain ⟨acc, v, hs⟩ := hs
    exact ⟨acc, v, hs.turn hg hz⟩
  case hIx =>
    have hz : ∀ r, row = some r → w.heap.size + 4 ≤ r := fun r e => by rcases hr r e with h | h; exact h.elim; omega
    exact ⟨hs.1, hs.2.turn hg hz⟩
  case assign =>
    intro l' p W' K hK
    gi_wp2
    exact hK
  case body =>
    rintro l' pre ⟨nn, p⟩ W1 ⟨acc, v, hI⟩ hbig hSp
    have HRd := Lib.hid (read_any p (HPC.out (nn, p) pre hSp) W1 (HPV.out.on hI.bel).here)
    obtain ⟨A, c, rfl⟩ := own_slc hI.own
    have HI := Lib.hid hI
    have HS := Lib.hid (And.intro hSp hbig)
    clear hI hSp hbig r4
    cases hrd : rdL p.data.toList with
    | none =>
      rw [hrd] at HRd
      have HX := Lib.hid (HI.out.spec.trans (prs_bad HS.out.1 hrd))
      clear hrd
      gi_wp2_with (first
        | (refine ⟨trivial, ?_⟩; refine (CallsIn.inRound l' (callsIn_wide.2 HRd.out)).mono ?_; rintro e w2 ⟨hb2, s2, rfl, hs2⟩; dsimp only; have H2 := Lib.hid hb2; clear hb2 hs2)
        | ((with_reducible refine wpListIn_store_row rfl 39 _ _ rfl w2.heap.size 0 _ rfl rfl ?_ ?_ ?_ ?_); exact th_new3 w2 (stpC (stp0 0 0)) 39; exact stpC_size s2; exact all_oneCell_toArray (stpC_one s2)
           change wpListIn _ _ _ _ _ _ _ ((w2.alloc (.cells (stpC (stp0 0 0)).toArray 39)).setCells w2.heap.size 0 (stpC s2))
           have hbx := box_below w2 (stpC (stp0 0 0)) (stpC s2) 39
           have hs3 : StpAt _ _ s2 := box_row w2 (stpC (stp0 0 0)) (stpC s2) 39 rfl
           have H3 := Lib.hid (And.intro hs3 (And.intro (HI.out.blw (H2.out.trans (hbx.mono H2.out.size))) (H2.out.trans (hbx.mono H2.out.size))))
           clear hbx hs3
           generalize (w2.alloc (.cells (stpC (stp0 0 0)).toArray 39)).setCells w2.heap.size 0 (stpC s2) = w3 at *
           generalize w2.heap.size = g3 at *
           obtain ⟨c0, f0, c1, f1, c2, f2, c3, f3⟩ := H3.out.2.1.cells)
        | gi_in)
      have hL := H3.out.2.1.leave HX.out
      have hkp : KeptZ (fun r => w.heap.size + 4 ≤ r) W1 w3 := fun r o _ ho => (H3.out.2.2.block r (Array.getElem?_eq_some_iff.1 ho).1).trans ho
      exact ⟨(hkp.trans hL.1).sub (fun r hr => by have hr2 : w.heap.size + 5 ≤ r ∧ _ := hr; omega), rfl, hL.2⟩
    | some s =>
      rw [hrd] at HRd
      by_cases hl : acc.length = 400
      · have hq : ((acc.length : Int) == 400) = true := by simp [hl]
        have HX := Lib.hid (HI.out.spec.trans (prs_full HS.out.1 hrd hl))
        clear hrd hl
        gi_wp2_with (first
          | (refine ⟨trivial, ?_⟩; refine (CallsIn.inRound l' (callsIn_wide.2 HRd.out)).mono ?_; rintro e w2 ⟨hb2, s2, rfl, hs2⟩; dsimp only; have H2 := Lib.hid hb2; obtain rfl := hs2 s rfl; clear hb2 hs2)
          | ((with_reducible refine wpListIn_store_row rfl 39 _ _ rfl w2.heap.size 0 _ rfl rfl ?_ ?_ ?_ ?_); exact th_new3 w2 (stpC (stp0 0 0)) 39; exact stpC_size s2; exact all_oneCell_toArray (stpC_one s2)
             change wpListIn _ _ _ _ _ _ _ ((w2.alloc (.cells (stpC (stp0 0 0)).toArray 39)).setCells w2.heap.size 0 (stpC s2))
             have hbx := box_below w2 (stpC (stp0 0 0)) (stpC s2) 39
             have hs3 : StpAt _ _ s2 := box_row w2 (stpC (stp0 0 0)) (stpC s2) 39 rfl
             have H3 := Lib.hid (And.intro hs3 (And.intro (HI.out.blw (H2.out.trans (hbx.mono H2.out.size))) (H2.out.trans (hbx.mono H2.out.size))))
             clear hbx hs3
             generalize (w2.alloc (.cells (stpC (stp0 0 0)).toArray 39)).setCells w2.heap.size 0 (stpC s2) = w3 at *
             generalize w2.heap.size = g3 at *
             obtain ⟨c0, f0, c1, f1, c2, f2, c3, f3⟩ := H3.out.2.1.cells)
          | gi_in)
        have hL := H3.out.2.1.leave HX.out
        have hkp : KeptZ (fun r => w.heap.size + 4 ≤ r) W1 w3 := fun r o _ ho => (H3.out.2.2.block r (Array.getElem?_eq_some_iff.1 ho).1).trans ho
        exact ⟨(hkp.trans hL.1).sub (fun r hr => by have hr2 : w.heap.size + 5 ≤ r ∧ _ := hr; omega), rfl, hL.2⟩
      · have hq : ((acc.length : Int) == 400) = false := by simpa using (by omega : ¬ (acc.length : Int) = 400)
        have HX := Lib.hid (HI.out.spec.trans (prs_next HS.out.1 hrd hl))
        have HB14 := Lib.hid (show w.heap.size + 14 ≤ W1.heap.size from by have := HS.out.2; omega)
        have HL := Lib.hid hl
        have HX0 := Lib.hid (prs_next HS.out.1 hrd hl)
        have HM := Lib.hid (show acc.length + 1 ≤ maxLen ∧ (acc.length + 1) * 88 ≤ 140737488355328 from by have := HI.out.len; unfold maxLen; omega)
        obtain ⟨iT, hiT, hzT, hsT, hbT⟩ := info_parts infoT
        clear hrd hl
        gi_wp2_with (first
          | (refine ⟨trivial, ?_⟩; refine (CallsIn.inRound l' (callsIn_wide.2 HRd.out)).mono ?_; rintro e w2 ⟨hb2, s2, rfl, hs2⟩; dsimp only; have H2 := Lib.hid hb2; obtain rfl := hs2 s rfl; clear hb2 hs2)
          | ((with_reducible refine wpListIn_store_row rfl 39 _ _ rfl w2.heap.size 0 _ rfl rfl ?_ ?_ ?_ ?_); exact th_new3 w2 (stpC (stp0 0 0)) 39; exact stpC_size s2; exact all_oneCell_toArray (stpC_one s2)
             change wpListIn _ _ _ _ _ _ _ ((w2.alloc (.cells (stpC (stp0 0 0)).toArray 39)).setCells w2.heap.size 0 (stpC s2))
             have hbx := box_below w2 (stpC (stp0 0 0)) (stpC s2) 39
             have hs3 : StpAt _ _ s2 := box_row w2 (stpC (stp0 0 0)) (stpC s2) 39 rfl
             have H3 := Lib.hid (And.intro hs3 (And.intro (HI.out.blw (H2.out.trans (hbx.mono H2.out.size))) (H2.out.trans (hbx.mono H2.out.size))))
             clear hbx hs3
             generalize (w2.alloc (.cells (stpC (stp0 0 0)).toArray 39)).setCells w2.heap.size 0 (stpC s2) = w3 at *
             generalize w2.heap.size = g3 at *
             obtain ⟨c0, f0, c1, f1, c2, f2, c3, f3⟩ := H3.out.2.1.cells
             have HR3 : Hid (w3.rangeAt g3 0 [.int .u8 (s2.d : Int), .int .u8 (s2.a : Int), .int .u8 (s2.b : Int), .int .i64 s2.k, .int .u8 (s2.cl : Int), .int .u32 (s2.sq : Int), .int .u8 (s2.kd : Int), .string ⟨s2.y.toArray⟩, .string ⟨s2.o.toArray⟩, .string ⟨s2.n.toArray⟩, .int .u8 (s2.st : Int)]) := Lib.hid (range_row H3.out.1))
          | (with_reducible refine wpListIn_load_row rfl 39 _ rfl g3 0 rfl [.int .u8 (s2.d : Int), .int .u8 (s2.a : Int), .int .u8 (s2.b : Int), .int .i64 s2.k, .int .u8 (s2.cl : Int), .int .u32 (s2.sq : Int), .int .u8 (s2.kd : Int), .string ⟨s2.y.toArray⟩, .string ⟨s2.o.toArray⟩, .string ⟨s2.n.toArray⟩, .int .u8 (s2.st : Int)] _ HR3.out Tryd.underlying39 rfl (stp11_size _ _ _ _ _ _ _ _ _ _ _) ?_)
          | (gi_at_builtin; refine wpListIn_append_own _ rfl _ _ 22 rfl (w.heap.size + 14) 39 iT (.agg (stpC (stp0 0 0)).toArray) 11 88 Tryd.underlying22 hiT hzT hsT hbT rfl (by decide) _ _ _ rfl (World.ownsRow.alloc H3.out.2.1.own _) ⟨w3.heap.size, 0, none⟩ 1 1 [.int .u8 (s2.d : Int), .int .u8 (s2.a : Int), .int .u8 (s2.b : Int), .int .i64 s2.k, .int .u8 (s2.cl : Int), .int .u32 (s2.sq : Int), .int .u8 (s2.kd : Int), .string ⟨s2.y.toArray⟩, .string ⟨s2.o.toArray⟩, .string ⟨s2.n.toArray⟩, .int .u8 (s2.st : Int)] rfl rfl (cells_newS w3 _ _) (stpC_one s2) HM.out.1 HM.out.2 (grow_size HB14.out H3.out.2.2.size) ?_
             intro v4 w4 ho4 hg4 _
             have HN := Lib.hid (H3.out.2.1.next HX0.out HL.out ho4 hg4 (by have := HS.out.2; have := H3.out.2.2.size; omega))
             have hge := fun k hk => (World.ownsRow.lt H3.out.2.1.own k hk).1
             have r3 := (hg4.block (w.heap.size + 3) (by have := HS.out.2; have := H3.out.2.2.size; simp; omega) (fun e => by have := hge _ e.symm; omega)).trans ((Below.heap_alloc _ _ _ (by have := HS.out.2; have := H3.out.2.2.size; omega)).trans H3.out.2.1.r3)
             have c4 : w4.cell? ⟨w.heap.size + 3, 0, none⟩ = some (.slice A acc.length c) := cell_of_row _ _ _ _ _ _ r3
             have f4 := thaw_row 0 r3
             obtain ⟨A4, c4', rfl⟩ := own_slc ho4
             clear ho4 hg4 hge r3 c0 f0 c1 f1 c2 f2 c3 f3)
          | gi_in)
        have hkp : KeptZ (fun r => w.heap.size + 4 ≤ r ∧ r < w.heap.size + 14) W1 w3 := fun r o _ ho => (H3.out.2.2.block r (Array.getElem?_eq_some_iff.1 ho).1).trans ho
        exact ⟨(hkp.trans HN.out.1).sub (fun r hr => by first | (have hr2 : w.heap.size + 5 ≤ r ∧ r < w.heap.size + 5 + 2 + 7 := hr; constructor <;> omega) | (rcases hr with h | h; exact h.elim; constructor <;> omega)), _, _, HN.out.2⟩
  case done =>
    rintro ys W' rfl ⟨acc, v, hI⟩ hK
    obtain ⟨A, c, rfl⟩ := own_slc hI.own
    obtain ⟨c0, f0, c1, f1, c2, f2, c3, f3⟩ := hI.cells
    have HI := Lib.hid (hI.fin (D := E5.heap.size) ⟨by omega, by omega⟩ hK)
    clear hI hK
    gi_wp2
    obtain ⟨hK2, Y, hY, y0, y1, y2, hP⟩ := HI.out
    refine ⟨by simp, .inl ⟨_, _, rfl, run_takeDeferred hK2, ?_⟩⟩
    rw [← hY]
    refine ⟨.tuple #[.slice A acc.length c, .int .i64 0, .int .i64 0], ?_, hP⟩
    simp [results, Tryd.results11, go_sem, y0, y1, y2] <;> rfl
  case stop =>
    rintro c pre W' hSp ⟨rfl, hX⟩ hK
    gi_wp2
    obtain ⟨Y, n, e, hY, y0, y1, y2, hP⟩ := hX.fin (D := E5.heap.size) (by omega)
    refine ⟨by simp, .inl ⟨_, _, rfl, run_takeDeferred hK, ?_⟩⟩
    rw [← hY]
    refine ⟨.tuple #[.slice none 0 0, .int .i64 (n : Int), .int .i64 (e : Int)], ?_, hP⟩
    simp [results, Tryd.results11, go_sem, y0, y1, y2] <;> rfl
end Go.Proofs.YtjjlodeiejobdaaDoor
