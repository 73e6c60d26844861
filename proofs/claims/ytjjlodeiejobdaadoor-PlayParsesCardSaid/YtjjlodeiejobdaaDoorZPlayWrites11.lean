/- Play: the document's word, kind. No condition. -/
import Derived.Test.YtjjlodeiejobdaaDoorZPlayWrites10
namespace Go.Proofs.YtjjlodeiejobdaaDoor
open Go.RowKit Go.Shelf
def WN : List Bs := [[], [100, 101, 108, 105, 118, 101, 114], [100, 114, 111, 112], [100, 111, 117, 98, 108, 101], [99, 117, 116], [104, 101, 97, 108], [116, 105, 99, 107], [99, 114, 97, 115, 104], [115, 116, 97, 114, 116], [102, 117, 115, 101], [114, 111, 111, 109], [116, 117, 114, 110], [105, 110, 118, 111, 107, 101], [110, 117, 100, 103, 101]]
def WT : List Bs := [[], [65, 66, 75], [65, 66, 75], [65, 66, 75], [65, 66], [], [65], [65, 75], [65], [65, 75], [65, 75], [65, 75], [65, 67], [65]]
def KN : List Bs := [[], [103, 101, 116], [112, 117, 116], [100, 101, 108], [99, 97, 115], [109, 101, 109, 98, 101, 114, 115]]
def KT : List Bs := [[], [75], [75, 78], [75], [75, 79, 78], [83]]
def wdN (d : Nat) : Bs := WN.getD d []
def wdT (d : Nat) : Bs := WT.getD d []
def kdN (d : Nat) : Bs := KN.getD d []
def kdT (d : Nat) : Bs := KT.getD d []
theorem row_str {y : World} {g : Nat} {l : List Bs} {t : TypeId} (h : y.heap[g]? = some (.cells (l.map strV).toArray t (0, 0))) (d : Nat) (hd : d < l.length) : y.cell? ⟨g, d, none⟩ = some (.string ⟨(l.getD d []).toArray⟩) := by
  have e : (l.map strV)[d]? = some (strV (l.getD d [])) := by
    rw [List.getElem?_map, List.getElem?_eq_getElem hd]
    simp [List.getD, List.getElem?_eq_getElem hd]
  rw [cell_of_row y g d (l.map strV).toArray t (0, 0) h]
  simpa [strV] using e
def TwoS (a b : Bs) (w : World) (e : Ending) (w' : World) : Prop := e = .returned (.tuple #[.string ⟨a.toArray⟩, .string ⟨b.toArray⟩]) ∧ Below w.heap.size w w'
theorem wdN_no {d : Nat} (h : 14 ≤ d) : wdN d = [] ∧ wdT d = [] := by
  unfold wdN wdT
  constructor
  · show (WN[d]?).getD [] = []
    rw [List.getElem?_eq_none (show WN.length ≤ d from h)]; rfl
  · show (WT[d]?).getD [] = []
    rw [List.getElem?_eq_none (show WT.length ≤ d from h)]; rfl
set_option maxRecDepth 100000 in
set_option maxHeartbeats 4000000 in
theorem word_any (d : Nat) (hd : d < 256) (w : World) : Calls Tryd.prog 34 #[.int .u8 (d : Int)] w (TwoS (wdN d) (wdT d) w) := by
  by_cases h : d < 14
  · have h1 : ¬ (d : Int) ≥ 14 := by omega
    have h2 : (d : Int) < 14 := by omega
    have h3 : wrap64 (d : Int) = (d : Int) := wrap64_id (by omega)
    go_enter Tryd.func34, Tryd.ntmps34
    go_upto_region 5 with fail
    change Code.wp _ _ _ _ ((w.alloc (.cells (WN.map strV).toArray 9)).alloc (.cells (WT.map strV).toArray 9))
    have hb1 := ((Below.refl _ w).alloc (Nat.le_refl _) (.cells (WN.map strV).toArray 9)).alloc (by simp) (.cells (WT.map strV).toArray 9)
    have hA : ((w.alloc (.cells (WN.map strV).toArray 9)).alloc (.cells (WT.map strV).toArray 9)).heap[w.heap.size]? = some (.cells (WN.map strV).toArray 9 (0, 0)) := by
      rw [heap_alloc_old _ _ (show w.heap.size < (w.alloc (.cells (WN.map strV).toArray 9)).heap.size by simp)]
      exact heap_alloc_new _ _
    have hB : ((w.alloc (.cells (WN.map strV).toArray 9)).alloc (.cells (WT.map strV).toArray 9)).heap[w.heap.size + 1]? = some (.cells (WT.map strV).toArray 9 (0, 0)) := by
      have := heap_alloc_new (w.alloc (.cells (WN.map strV).toArray 9)) (.cells (WT.map strV).toArray 9)
      simpa using this
    have HB1 := Lib.hid hb1
    have HA := Lib.hid hA
    have HBB := Lib.hid hB
    clear hb1 hA hB
    generalize (w.alloc (.cells (WN.map strV).toArray 9)).alloc (.cells (WT.map strV).toArray 9) = w1 at *
    refine (wpIn_wide (n := 1)).1 ?_
    refine RegJ.wpIn_region_plan (F := Fence.wide) (KeptW w1) (.step 0 0 (.step 1 0 (.step 2 0 (.step 3 0 (.step 4 0 (.step 5 0 (.step 6 0 (.step 7 0 (.step 8 0 (.step 9 0 .nil)))))))))) (by kernel_rfl) (by kernel_rfl) (by kernel_rfl) (fun _ _ d _ _ h => by cases d <;> exact h) ⟨rfl, rfl, rfl, Nat.le_refl _, fun _ _ => rfl⟩ ?_
    dsimp only [RegJ.pickJ, List.getElem?_cons_zero, List.getElem?_cons_succ]
    change RegJ.Can _ _ _ _ _ _ _ _ w1.drew
    have hkd : KeptW w1 w1.drew := ⟨rfl, rfl, rfl, Nat.le_refl _, fun _ _ => rfl⟩
    generalize w1.drew = v1 at *
    iterate 3 (refine RegJ.reads ?_; intro K hK; go_simp; (first | refine ⟨_, fun _ _ => rfl, hK _ ?_⟩ | refine hK _ ?_); clear hK K)
    refine RegJ.reads ?_
    intro K hK
    go_simp
    refine ⟨.string ⟨(wdN d).toArray⟩, fun y hy => ?_, hK _ ?_⟩
    · have hc := row_str ((KeptW.bel hy).block _ (Array.getElem?_eq_some_iff.1 HA.out).1 |>.trans HA.out) d (show d < WN.length from h)
      go_simp
      rfl
    clear hK K
    iterate 3 (refine RegJ.reads ?_; intro K hK; go_simp; (first | refine ⟨_, fun _ _ => rfl, hK _ ?_⟩ | refine hK _ ?_); clear hK K)
    refine RegJ.reads ?_
    intro K hK
    go_simp
    refine ⟨.string ⟨(wdT d).toArray⟩, fun y hy => ?_, hK _ ?_⟩
    · have hc := row_str ((KeptW.bel hy).block _ (Array.getElem?_eq_some_iff.1 HBB.out).1 |>.trans HBB.out) d (show d < WT.length from h)
      go_simp
      rfl
    clear hK K
    iterate 2 (refine RegJ.reads ?_; intro K hK; go_simp; (first | refine ⟨_, fun _ _ => rfl, hK _ ?_⟩ | refine hK _ ?_); clear hK K)
    refine RegJ.nil ?_
    have Hvk := Lib.hid (KeptW.bel hkd)
    clear hkd
    go_wp2_with fail
    go_ret2
    exact ⟨rfl, HB1.out.trans (Hvk.out.mono HB1.out.size)⟩
  · have h1 : (d : Int) ≥ 14 := by omega
    have h3 : wrap64 (d : Int) = (d : Int) := wrap64_id (by omega)
    have HN := Lib.hid (wdN_no (d := d) (by omega))
    go_enter Tryd.func34, Tryd.ntmps34
    go_wp2_with fail
    go_ret2
    exact ⟨by rw [HN.out.1, HN.out.2]; rfl, (((Below.refl _ w).alloc (Nat.le_refl _) (.cells (WN.map strV).toArray 9)).alloc (by simp) (.cells (WT.map strV).toArray 9))⟩
theorem kdN_no {d : Nat} (h : 6 ≤ d) : kdN d = [] ∧ kdT d = [] := by
  unfold kdN kdT
  constructor
  · show (KN[d]?).getD [] = []
    rw [List.getElem?_eq_none (show KN.length ≤ d from h)]; rfl
  · show (KT[d]?).getD [] = []
    rw [List.getElem?_eq_none (show KT.length ≤ d from h)]; rfl
set_option maxRecDepth 100000 in
set_option maxHeartbeats 4000000 in
theorem kind_any (d : Nat) (hd : d < 256) (w : World) : Calls Tryd.prog 36 #[.int .u8 (d : Int)] w (TwoS (kdN d) (kdT d) w) := by
  by_cases h : d < 6
  · have h1 : ¬ (d : Int) ≥ 6 := by omega
    have h2 : (d : Int) < 6 := by omega
    have h3 : wrap64 (d : Int) = (d : Int) := wrap64_id (by omega)
    go_enter Tryd.func36, Tryd.ntmps36
    go_upto_region 5 with fail
    change Code.wp _ _ _ _ ((w.alloc (.cells (KN.map strV).toArray 9)).alloc (.cells (KT.map strV).toArray 9))
    have hb1 := ((Below.refl _ w).alloc (Nat.le_refl _) (.cells (KN.map strV).toArray 9)).alloc (by simp) (.cells (KT.map strV).toArray 9)
    have hA : ((w.alloc (.cells (KN.map strV).toArray 9)).alloc (.cells (KT.map strV).toArray 9)).heap[w.heap.size]? = some (.cells (KN.map strV).toArray 9 (0, 0)) := by
      rw [heap_alloc_old _ _ (show w.heap.size < (w.alloc (.cells (KN.map strV).toArray 9)).heap.size by simp)]
      exact heap_alloc_new _ _
    have hB : ((w.alloc (.cells (KN.map strV).toArray 9)).alloc (.cells (KT.map strV).toArray 9)).heap[w.heap.size + 1]? = some (.cells (KT.map strV).toArray 9 (0, 0)) := by
      have := heap_alloc_new (w.alloc (.cells (KN.map strV).toArray 9)) (.cells (KT.map strV).toArray 9)
      simpa using this
    have HB1 := Lib.hid hb1
    have HA := Lib.hid hA
    have HBB := Lib.hid hB
    clear hb1 hA hB
    generalize (w.alloc (.cells (KN.map strV).toArray 9)).alloc (.cells (KT.map strV).toArray 9) = w1 at *
    refine (wpIn_wide (n := 1)).1 ?_
    refine RegJ.wpIn_region_plan (F := Fence.wide) (KeptW w1) (.step 0 0 (.step 1 0 (.step 2 0 (.step 3 0 (.step 4 0 (.step 5 0 (.step 6 0 (.step 7 0 (.step 8 0 (.step 9 0 .nil)))))))))) (by kernel_rfl) (by kernel_rfl) (by kernel_rfl) (fun _ _ d _ _ h => by cases d <;> exact h) ⟨rfl, rfl, rfl, Nat.le_refl _, fun _ _ => rfl⟩ ?_
    dsimp only [RegJ.pickJ, List.getElem?_cons_zero, List.getElem?_cons_succ]
    change RegJ.Can _ _ _ _ _ _ _ _ w1.drew
    have hkd : KeptW w1 w1.drew := ⟨rfl, rfl, rfl, Nat.le_refl _, fun _ _ => rfl⟩
    generalize w1.drew = v1 at *
    iterate 3 (refine RegJ.reads ?_; intro K hK; go_simp; (first | refine ⟨_, fun _ _ => rfl, hK _ ?_⟩ | refine hK _ ?_); clear hK K)
    refine RegJ.reads ?_
    intro K hK
    go_simp
    refine ⟨.string ⟨(kdN d).toArray⟩, fun y hy => ?_, hK _ ?_⟩
    · have hc := row_str ((KeptW.bel hy).block _ (Array.getElem?_eq_some_iff.1 HA.out).1 |>.trans HA.out) d (show d < KN.length from h)
      go_simp
      rfl
    clear hK K
    iterate 3 (refine RegJ.reads ?_; intro K hK; go_simp; (first | refine ⟨_, fun _ _ => rfl, hK _ ?_⟩ | refine hK _ ?_); clear hK K)
    refine RegJ.reads ?_
    intro K hK
    go_simp
    refine ⟨.string ⟨(kdT d).toArray⟩, fun y hy => ?_, hK _ ?_⟩
    · have hc := row_str ((KeptW.bel hy).block _ (Array.getElem?_eq_some_iff.1 HBB.out).1 |>.trans HBB.out) d (show d < KT.length from h)
      go_simp
      rfl
    clear hK K
    iterate 2 (refine RegJ.reads ?_; intro K hK; go_simp; (first | refine ⟨_, fun _ _ => rfl, hK _ ?_⟩ | refine hK _ ?_); clear hK K)
    refine RegJ.nil ?_
    have Hvk := Lib.hid (KeptW.bel hkd)
    clear hkd
    go_wp2_with fail
    go_ret2
    exact ⟨rfl, HB1.out.trans (Hvk.out.mono HB1.out.size)⟩
  · have h1 : (d : Int) ≥ 6 := by omega
    have h3 : wrap64 (d : Int) = (d : Int) := wrap64_id (by omega)
    have HN := Lib.hid (kdN_no (d := d) (by omega))
    go_enter Tryd.func36, Tryd.ntmps36
    go_wp2_with fail
    go_ret2
    exact ⟨by rw [HN.out.1, HN.out.2]; rfl, (((Below.refl _ w).alloc (Nat.le_refl _) (.cells (KN.map strV).toArray 9)).alloc (by simp) (.cells (KT.map strV).toArray 9))⟩
end Go.Proofs.YtjjlodeiejobdaaDoor
namespace Go.Proofs.YtjjlodeiejobdaaDoor
open Go.RowKit Go.Shelf
/-- The letter of the program for one of the document's. -/
def kdC (c : UInt8) : UInt8 := if c = 75 then 121 else if c = 79 then 111 else if c = 78 then 110 else 115
theorem cls_ex : ∀ d : Fin 14, d.val = 0 ∨ d.val = 12 ∨ ∃ f ∈ FT, formS d.val 0 = some f ∧ f.d = d.val ∧ f.k = 0 ∧ f.w = wdN d.val ∧ wdN d.val ≠ [] ∧ (wdN d.val).length ≤ 7 ∧
    ((wdT d.val = [] ∧ f.t = []) ∨ (wdT d.val = [65] ∧ f.t = [97]) ∨ (wdT d.val = [65, 66] ∧ f.t = [97, 98]) ∨ (wdT d.val = [65, 66, 75] ∧ f.t = [97, 98, 107]) ∨ (wdT d.val = [65, 75] ∧ f.t = [97, 107])) := by decide +kernel
theorem kd_ex : ∀ k : Fin 6, k.val = 0 ∨ ∃ f ∈ FT, formS 12 k.val = some f ∧ f.d = 12 ∧ f.k = k.val ∧ f.w = kdN k.val ∧ kdN k.val ≠ [] ∧ (kdN k.val).length ≤ 7 ∧ f.t = 97 :: 105 :: (kdT k.val).map kdC ∧ (kdT k.val).length ≤ 3 ∧ (kdT k.val).Nodup ∧ ∀ c ∈ kdT k.val, c = 75 ∨ c = 79 ∨ c = 78 ∨ c = 83 := by decide +kernel
theorem ft_all : ∀ f ∈ FT, f.d ≠ 0 ∧ f.d < 14 ∧ (f.d ≠ 12 → f.k = 0) ∧ (f.d = 12 → 1 ≤ f.k ∧ f.k ≤ 5) := by decide +kernel
theorem form_no {d kd : Nat} (h : d = 0 ∨ 14 ≤ d ∨ (d ≠ 12 ∧ kd ≠ 0) ∨ (d = 12 ∧ (kd = 0 ∨ 6 ≤ kd))) : formS d kd = none := by
  unfold formS
  rw [List.find?_eq_none]
  intro f hf q
  obtain ⟨h1, h2, h3, h4⟩ := ft_all f hf
  obtain ⟨rfl, rfl⟩ := of_decide_eq_true q
  rcases h with h | h | ⟨h, h5⟩ | ⟨h, h5⟩
  · exact h1 h
  · omega
  · exact h5 (h3 h)
  · have := h4 h; omega
theorem say_no {s : StpV} (h : s.d = 0 ∨ 14 ≤ s.d ∨ (s.d ≠ 12 ∧ s.kd ≠ 0) ∨ (s.d = 12 ∧ (s.kd = 0 ∨ 6 ≤ s.kd))) : sayL s = none := by
  unfold sayL
  rw [form_no h]
/-- What the document's Say tells. -/
def SayR (R : Option Bs) (w : World) (e : Ending) (w' : World) : Prop := Below w.heap.size w w' ∧ ∃ X : ByteArray, e = .returned (.tuple #[.string X, .bool R.isSome]) ∧ (∀ l, R = some l → X = ⟨l.toArray⟩) ∧ X.size ≤ 2000000
theorem SayR.bad {R : Option Bs} {w w' : World} (hb : Below w.heap.size w w') (h : R = none) {X : ByteArray} (hX : X.size ≤ 2000000) : SayR R w (.returned (.tuple #[.string X, .bool false])) w' := by
  subst h
  exact ⟨hb, X, rfl, fun l h => (by cases h), hX⟩
theorem SayR.fin {s S : StpV} {f : FormV} {w w' : World} (hb : Below w.heap.size w w') (hf : formS s.d s.kd = some f) (hS : S = keepC f.t s (stp0 f.d f.k)) {X : ByteArray} (hX : X.data.toList = lineL f s) (hXs : X.size ≤ 2000000) : SayR (sayL s) w (.returned (.tuple #[.string X, .bool (decide (S = s))])) w' := by
  subst hS
  unfold sayL
  rw [hf]
  simp only
  by_cases h : keepC f.t s (stp0 f.d f.k) = s
  · rw [if_pos h, decide_eq_true h]
    refine ⟨hb, X, rfl, fun l hl => ?_, hXs⟩
    cases hl
    rw [← hX]
  · rw [if_neg h, decide_eq_false h]
    exact ⟨hb, X, rfl, fun l hl => (by cases hl), hXs⟩
theorem SayR.bad2 {s S : StpV} {w w' : World} (hb : Below w.heap.size w w') (h : sayL s = none) (hS : S.kd ≠ s.kd) {X : ByteArray} (hXs : X.size ≤ 2000000) : SayR (sayL s) w (.returned (.tuple #[.string X, .bool (decide (S = s))])) w' := by
  rw [h, decide_eq_false (fun e => hS (by rw [e]))]
  exact .bad hb rfl hXs
/-- The two steps that Say holds. -/
structure SyI (w : World) (g1 g6 : Nat) (s S : StpV) (y : World) : Prop where
  s1 : StpAt y g1 s
  s6 : StpAt y g6 S
  bel : Below w.heap.size w y
  r1 : w.heap.size ≤ g1
  r6 : g1 < g6
theorem SyI.below {w y y' : World} {g1 g6 : Nat} {s S : StpV} (h : SyI w g1 g6 s S y) (hb : Below y.heap.size y y') : SyI w g1 g6 s S y' := ⟨h.s1.below hb, h.s6.below hb, h.bel.trans (hb.mono h.bel.size), h.r1, h.r6⟩
theorem SyI.set {w y : World} {g1 g6 : Nat} {s S : StpV} (h : SyI w g1 g6 s S y) (S' : StpV) (i : Nat) (v : Value) (e : (stpC S).toArray.setIfInBounds i v = (stpC S').toArray) : SyI w g1 g6 s S' (y.setCell ⟨g6, i, none⟩ v) :=
  ⟨(Below.heap_setCell _ _ _ _ (by show g1 ≠ g6; have := h.r6; omega)).trans h.s1, h.s6.set S' i v e, h.bel.setCell (p := ⟨g6, i, none⟩) (by show w.heap.size ≤ g6; have := h.r1; have := h.r6; omega) _, h.r1, h.r6⟩
end Go.Proofs.YtjjlodeiejobdaaDoor
