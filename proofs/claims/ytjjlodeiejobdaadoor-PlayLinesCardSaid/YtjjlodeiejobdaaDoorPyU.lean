/- Play: formOf. Condition: the pieces lie there. -/
import Derived.Test.YtjjlodeiejobdaaDoorPyS
import Derived.Test.YtjjlodeiejobdaaDoorRowAt
import Derived.Test.YtjjlodeiejobdaaDoorRegK
import Derived.Test.YtjjlodeiejobdaaDoorKvB
namespace Go.Proofs.YtjjlodeiejobdaaDoor
open Go.RowKit Go.Shelf
open Go.Maps (Keyed)
open Go.ChangeMaps Go.MapKept
/-- Texts that lie side by side. -/
structure StrsAt (w : World) (g o : Nat) (ws : List ByteArray) : Prop where
  lt : g < w.heap.size
  at_ : ∀ (j : Nat) x, ws[j]? = some x → w.cell? ⟨g, o + j, none⟩ = some (.string x)
theorem StrsAt.below {w w' : World} {g o : Nat} {ws : List ByteArray} (h : StrsAt w g o ws) (hb : Below w.heap.size w w') : StrsAt w' g o ws := ⟨Nat.lt_of_lt_of_le h.lt hb.size, fun j x hj => (World.cell?_of_block (hb.block g h.lt)).trans (h.at_ j x hj)⟩
theorem StrsAt.tail {w : World} {g o : Nat} {x : ByteArray} {ws : List ByteArray} (h : StrsAt w g o (x :: ws)) : StrsAt w g (o + 1) ws := ⟨h.lt, fun j y hj => by rw [show o + 1 + j = o + (j + 1) by omega]; exact h.at_ (j + 1) y hj⟩
def formZ : FormV := ⟨[], 0, 0, []⟩
theorem formC_one (f : FormV) : ∀ u ∈ formC f, u.oneCell' = true := by simp [formC, Value.oneCell']
theorem formC_size (f : FormV) : (Tryd.prog.info? 62).map (·.size) = some (formC f).length := (by kernel_rfl : (Tryd.prog.info? 62).map (·.size) = some 3)
theorem form3_size (a b c : Value) : (Tryd.prog.info? 62).map (·.size) = some [a, b, c].length := (by kernel_rfl : (Tryd.prog.info? 62).map (·.size) = some 3)
def FormAt (w : World) (g : Nat) (f : FormV) : Prop := w.heap[g]? = some (.cells (formC f).toArray 62 (0, 0))
theorem FormAt.below {w w' : World} {g : Nat} {f : FormV} (h : FormAt w g f) (hb : Below w.heap.size w w') : FormAt w' g f := (hb.block g (Array.getElem?_eq_some_iff.1 h).1).trans h
theorem FormAt.lt {w : World} {g : Nat} {f : FormV} (h : FormAt w g f) : g < w.heap.size := (Array.getElem?_eq_some_iff.1 h).1
theorem FormAt.cells {w : World} {g : Nat} {f : FormV} (h : FormAt w g f) : w.cell? ⟨g, 0, none⟩ = some (.int .u8 (f.d : Int)) ∧ w.cell? ⟨g, 1, none⟩ = some (.int .u8 (f.k : Int)) ∧ w.cell? ⟨g, 2, none⟩ = some (.string ⟨f.t.toArray⟩) := ⟨cell_of_row _ _ _ _ _ _ h, cell_of_row _ _ _ _ _ _ h, cell_of_row _ _ _ _ _ _ h⟩
theorem form_loadVar {y : World} {g : Nat} {f : FormV} (h : FormAt y g f) : (loadVar 62 ⟨g, 0, none⟩).run Tryd.prog y = .ok (formV f) y := run_loadVar_mid y g 0 62 (formC f) _ (range_row h) Tryd.underlying62 rfl (formC_size f)
/-- What formOf tells. -/
def FormR (R : Option FormV) (w : World) (e : Ending) (w' : World) : Prop := Below w.heap.size w w' ∧ ∃ (f : FormV) (wd : ByteArray), e = .returned (.tuple #[formV f, .string wd, .bool R.isSome]) ∧ ∀ g, R = some g → f = g ∧ wd = ⟨g.w.toArray⟩
theorem FormR.bad {R : Option FormV} {w w' : World} (hb : Below w.heap.size w w') (h : R = none) (f : FormV) (wd : ByteArray) : FormR R w (.returned (.tuple #[formV f, .string wd, .bool false])) w' := by
  subst h
  exact ⟨hb, f, wd, rfl, fun g h => by cases h⟩
theorem FormR.good {R : Option FormV} {w w' : World} (hb : Below w.heap.size w w') {f : FormV} {wd : ByteArray} {q : Bool} (h : R = if q then some f else none) (hw : wd.data.toList = f.w) : FormR R w (.returned (.tuple #[formV f, .string wd, .bool q])) w' := by
  subst h
  cases q
  · exact ⟨hb, f, wd, rfl, fun g h => by cases h⟩
  · exact ⟨hb, f, wd, rfl, fun g h => by cases h; exact ⟨rfl, by rw [← hw]⟩⟩
theorem formL_of {ws : List Bs} {w0 : Bs} {r : List Bs} (hw : ws = w0 :: r) (h : ¬ (w0 = INV ∧ ws.length < 3)) (wd : Bs) (hwd : wd = if w0 = INV then ws.getD 2 [] else w0) : formL ws = (FT.find? (fun f => decide (f.w = wd))).bind (fun f => if decide (f.d = 12) = decide (w0 = INV) then some f else none) := by
  subst hw hwd
  unfold formL
  rw [if_neg (show ¬ ((w0 :: r).headD [] = INV ∧ (w0 :: r).length < 3) from h)]
  show (match FT.find? (fun f => decide (f.w = if w0 = INV then (w0 :: r).getD 2 [] else w0)) with
    | some f => if decide (f.d = 12) = decide (w0 = INV) then some f else none
    | none => none) = _
  cases FT.find? (fun f => decide (f.w = if w0 = INV then (w0 :: r).getD 2 [] else w0)) <;> rfl
theorem formL_short {ws : List Bs} {w0 : Bs} {r : List Bs} (hw : ws = w0 :: r) (h : w0 = INV ∧ ws.length < 3) : formL ws = none := by
  subst hw
  unfold formL
  rw [if_pos (show (w0 :: r).headD [] = INV ∧ (w0 :: r).length < 3 from h)]
/-- 'y' is as 'w', but for one block. -/
structure ButOne (g : Nat) (w y : World) : Prop where
  os : y.os = w.os
  tape : y.tape = w.tape
  output : y.output = w.output
  size : w.heap.size ≤ y.heap.size
  block : ∀ k, k < w.heap.size → k ≠ g → y.heap[k]? = w.heap[k]?
theorem ButOne.form {g gx : Nat} {w y : World} {f : FormV} (hb : ButOne g w y) (h : FormAt w gx f) (hg : g < gx) : FormAt y gx f := (hb.block gx h.lt (by omega)).trans h
theorem th_new3 (y : World) (cs0 : List Value) (t : TypeId) : (y.alloc (.cells cs0.toArray t)).there y.heap.size 0 cs0.length := there_row (heap_alloc_new _ _)
theorem zero_form (w : World) : (zeroValue 62).run Tryd.prog w = .ok (formV formZ) w := by kernel_rfl
set_option maxRecDepth 100000 in
set_option maxHeartbeats 8000000 in
theorem formOf_any (x0 : ByteArray) (r : List ByteArray) (hsz : ∀ x ∈ x0 :: r, x.size ≤ 1000000) (hlen : r.length ≤ 1000000) (g o c : Nat) (w : World) (h : StrsAt w g o (x0 :: r)) :
    Calls Tryd.prog 28 #[.slice (some ⟨g, o, none⟩) (r.length + 1) c] w (FormR (formL ((x0 :: r).map (·.data.toList))) w) := by
  have hb0 := (Below.refl w.heap.size w).alloc (Nat.le_refl _) (.cells (formC formZ).toArray 62)
  have HS0 := Lib.hid h
  go_enter Tryd.func28, Tryd.ntmps28
  go_upto_region 1 with fail
  change Code.wp _ _ _ _ (w.alloc (.cells (formC formZ).toArray 62))
  have HG0 := Lib.hid (show FormAt (w.alloc (.cells (formC formZ).toArray 62)) w.heap.size formZ from heap_alloc_new _ _)
  have HB := Lib.hid (And.intro hb0 (h.below hb0))
  clear h hb0 HS0
  generalize w.alloc (.cells (formC formZ).toArray 62) = wr at *
  have HS := Lib.hid HB.out.2
  refine (wpIn_wide (n := 1)).1 ?_
  refine RegJ.wpIn_region_plan (F := Fence.wide) (KeptW wr) (.step 0 0 (.step 1 0 (.step 2 0 (.step 3 0 (.step 4 0 (.step 5 0 (.step 6 0 (.step 7 0 (.step 8 0 .nil))))))))) (by kernel_rfl) (by kernel_rfl) (by kernel_rfl) (fun _ _ d _ _ h => by cases d <;> exact h) ⟨rfl, rfl, rfl, Nat.le_refl _, fun _ _ => rfl⟩ ?_
  dsimp only [RegJ.pickJ, List.getElem?_cons_zero, List.getElem?_cons_succ]
  change RegJ.Can _ _ _ _ _ _ _ _ wr.drew
  have hkd : KeptW wr wr.drew := ⟨rfl, rfl, rfl, Nat.le_refl _, fun _ _ => rfl⟩
  generalize wr.drew = v1 at *
  iterate 2 (refine RegJ.reads ?_; intro K hK; go_simp; (first | refine ⟨_, fun _ _ => rfl, hK _ ?_⟩ | refine hK _ ?_); clear hK K)
  refine RegJ.reads ?_
  intro K hK
  go_simp
  refine ⟨.string x0, fun y hy => ?_, hK _ ?_⟩
  · have f0 : y.cell? ⟨g, o, none⟩ = some (.string x0) := (StrsAt.below HS.out (KeptW.bel hy)).at_ 0 x0 rfl
    go_simp
  clear hK K
  iterate 2 (refine RegJ.reads ?_; intro K hK; go_simp; (first | refine ⟨_, fun _ _ => rfl, hK _ ?_⟩ | refine hK _ ?_); clear hK K)
  refine RegJ.reads ?_
  intro K hK
  go_simp
  refine ⟨.string x0, fun y hy => ?_, hK _ ?_⟩
  · have f0 : y.cell? ⟨g, o, none⟩ = some (.string x0) := (StrsAt.below HS.out (KeptW.bel hy)).at_ 0 x0 rfl
    go_simp
  clear hK K
  iterate 3 (refine RegJ.reads ?_; intro K hK; go_simp; (first | refine ⟨_, fun _ _ => rfl, hK _ ?_⟩ | refine hK _ ?_); clear hK K)
  refine RegJ.nil ?_
  have HV := Lib.hid (And.intro (HB.out.1.trans ((KeptW.bel hkd).mono HB.out.1.size)) (HG0.out.below (KeptW.bel hkd)))
  have HSV := Lib.hid (HS.out.below (KeptW.bel hkd))
  have hx0 := hsz x0 (List.mem_cons_self ..)
  have hbe : (x0.toList == [105, 110, 118, 111, 107, 101]) = decide (x0.data.toList = INV) := by rw [Bool.eq_iff_iff, beq_iff_eq, decide_eq_true_iff, ByteArray.toList_eq]; rfl
  clear hkd HS HG0 HB
  by_cases hI : x0.data.toList = INV
  · have hbe1 : (x0.toList == [105, 110, 118, 111, 107, 101]) = true := by rw [hbe, decide_eq_true hI]
    have HI := Lib.hid hI
    rw [hbe1]
    clear hbe hI hbe1
    by_cases hsh : r.length < 2
    · have hsh' : ((r.length : Int) + 1 < 3) = True := by simp; omega
      have HRn := Lib.hid (formL_short (ws := (x0 :: r).map (·.data.toList)) rfl ⟨HI.out, by simp; omega⟩)
      have h6 := HV.out.2
      go_wp2_with ((with_reducible refine wpList_store_mid rfl 62 _ _ rfl w.heap.size 0 _ rfl rfl ?_ ?_ ?_ ?_); exact there_row (cs := formC formZ) h6; exact formC_size formZ; exact all_oneCell_toArray (formC_one formZ))
      change bodyPost _ _ _ _ _ (v1.setCells w.heap.size 0 (formC formZ))
      have hza : FormAt (v1.setCells w.heap.size 0 (formC formZ)) w.heap.size formZ := by rw [st_eq]; exact rowSt_row (formC formZ) [] (formC formZ) v1 h6 rfl
      have hzb : Below w.heap.size w (v1.setCells w.heap.size 0 (formC formZ)) := by rw [st_eq]; exact rowSt_below (g := w.heap.size) (n := w.heap.size) (Nat.le_refl _) (formC formZ) 0 _ HV.out.1
      have HZ := Lib.hid (And.intro hza hzb)
      clear hza hzb h6
      generalize v1.setCells w.heap.size 0 (formC formZ) = wz at *
      refine bodyPost_ret (v := .tuple #[formV formZ, .string ⟨#[]⟩, .bool false]) (by simp [results, Tryd.results28, show (asAddr (Value.pointer (some ⟨w.heap.size, 0, none⟩))).run Tryd.prog wz = .ok ⟨w.heap.size, 0, none⟩ wz from rfl, form_loadVar HZ.out.1]) rfl ?_
      exact .bad HZ.out.2 HRn.out _ _
    · have hsh' : ((r.length : Int) + 1 < 3) = False := by simp; omega
      obtain ⟨x1, wd, r', rfl⟩ : ∃ x1 x2 r', r = x1 :: x2 :: r' := by
        match r, hsh with
        | [], h => exact absurd (show ([] : List ByteArray).length < 2 by simp) h
        | [q], h => exact absurd (show [q].length < 2 by simp) h
        | x1 :: x2 :: r', _ => exact ⟨x1, x2, r', rfl⟩
      have hwd := hsz wd (by simp)
      have HL := Lib.hid (formL_of (ws := (x0 :: x1 :: wd :: r').map (·.data.toList)) rfl (fun h => by simp at h; omega) wd.data.toList (by rw [if_pos HI.out]; rfl))
      have f2 : v1.cell? ⟨g, o + 2, none⟩ = some (.string wd) := HSV.out.at_ 2 wd rfl
      go_upto_region 6 with fail
      clear f2
      have Hfm := Lib.hid (fun y : World => forms_any y)
      have hkey := key_ks (s := wd) (by unfold maxLen; omega)
      cases hfd : FT.find? (fun f => decide (f.w = wd.data.toList)) with
      | none =>
        have hMV : formM (.string wd.data.toList) = none := by rw [formM_at, hfd]; rfl
        have HRn := Lib.hid (show formL ((x0 :: x1 :: wd :: r').map (·.data.toList)) = none by rw [HL.out, hfd]; rfl)
        clear hfd
        go_upto_region 7 with (first
          | (go_at_call 24; refine (Hfm.out _).mono ?_; rintro e w2 ⟨rfl, hm2, hb2⟩; have H2 := Lib.hid (And.intro hm2 hb2); clear hm2 hb2)
          | (at_lookup; refine wpList_lookok_mp rfl _ _ 59 62 rfl lawS Tryd.underlying59 zero_form rfl H2.out.1 _ (.string wd.data.toList) rfl hkey ?_; rw [hMV])
          | ((with_reducible refine wpList_store_mid rfl 62 _ _ rfl w2.heap.size 0 _ rfl rfl ?_ ?_ ?_ ?_); exact th_new3 w2 (formC formZ) 62; exact formC_size formZ; exact all_oneCell_toArray (formC_one formZ)))
        change Code.wp _ _ _ _ ((w2.alloc (.cells (formC formZ).toArray 62)).setCells w2.heap.size 0 (formC formZ))
        have hbx := box_below w2 (formC formZ) (formC formZ) 62
        have HF := Lib.hid (show FormAt _ _ formZ from box_row w2 (formC formZ) (formC formZ) 62 rfl)
        have hb3 := HV.out.1.trans ((H2.out.2.trans (hbx.mono H2.out.2.size)).mono HV.out.1.size)
        have HBW := Lib.hid hb3
        have HGR := Lib.hid (HV.out.2.below (H2.out.2.trans (hbx.mono H2.out.2.size)))
        have HGX := Lib.hid (show w.heap.size < w2.heap.size from Nat.lt_of_lt_of_le HV.out.2.lt H2.out.2.size)
        clear hbx hb3 H2
        generalize (w2.alloc (.cells (formC formZ).toArray 62)).setCells w2.heap.size 0 (formC formZ) = w9 at *
        generalize w2.heap.size = gx at *
        refine (wpIn_wide (n := 1)).1 ?_
        refine RegK.wpIn_region_can (F := Fence.wide) (ButOne w.heap.size w9) [(0, 0), (1, 0), (2, 0), (3, 0), (4, 0), (5, 0), (6, 0), (7, 0), (8, 0), (9, 0), (10, 1), (11, 0), (12, 0)] (by kernel_rfl) (by kernel_rfl) (by kernel_rfl) (fun _ _ d _ _ h => by cases d <;> exact h) ⟨rfl, rfl, rfl, Nat.le_refl _, fun _ _ _ => rfl⟩ ?_
        dsimp only [RegK.pick, List.getElem?_cons_zero, List.getElem?_cons_succ]
        change RegK.Can _ _ _ _ _ _ _ _ w9.drew
        have hkd : ButOne w.heap.size w9 w9.drew := ⟨rfl, rfl, rfl, Nat.le_refl _, fun _ _ _ => rfl⟩
        have HKD := Lib.hid (show w9.drew.heap = w9.heap from rfl)
        generalize w9.drew = y1 at *
        refine RegK.can_reads ?_
        intro K hK
        rw [if_pos (by first | (simp [Region.wanted]; done) | (go_simp; done))]
        refine ⟨.agg (formC formZ).toArray, fun y hy => exec_load rfl rfl (row_loadAt (P := Tryd.prog) (cs := formC formZ) (ButOne.form hy HF.out HGX.out) Tryd.underlying62 rfl (formC_size formZ)), hK _ ?_⟩
        clear hK K
        go_simp
        iterate 3 (refine RegK.can_reads ?_; intro K hK; go_simp; (first | refine ⟨_, fun _ _ => rfl, hK _ ?_⟩ | refine hK _ ?_); clear hK K)
        (refine RegK.can_reads ?_; intro K hK; go_simp; refine hK _ ?_; clear hK K)
        (refine RegK.can_reads ?_; intro K hK; go_simp; refine hK _ ?_; clear hK K)
        (refine RegK.can_reads ?_; intro K hK; go_simp; refine hK _ ?_; clear hK K)
        (refine RegK.can_reads ?_; intro K hK; go_simp; refine hK _ ?_; clear hK K)
        (refine RegK.can_reads ?_; intro K hK; go_simp; refine hK _ ?_; clear hK K)
        refine RegK.can_reads ?_; intro K hK; go_simp; (first | refine ⟨_, fun _ _ => rfl, hK _ ?_⟩ | refine hK _ ?_); clear hK K
        have h6 : FormAt y1 w.heap.size formZ := by have h := HGR.out; unfold FormAt at h ⊢; rwa [HKD.out]
        have hza : FormAt (rowSt y1 w.heap.size 0 (formC formZ)) w.heap.size formZ := rowSt_row (formC formZ) [] (formC formZ) y1 h6 rfl
        have hby : Below w.heap.size w y1 := HBW.out.trans ⟨hkd.os, hkd.tape, hkd.output, hkd.size, fun k hk => by rw [HKD.out]⟩
        have hzb := rowSt_below (g := w.heap.size) (n := w.heap.size) (Nat.le_refl _) (formC formZ) 0 _ hby
        have hkz : ButOne w.heap.size w9 (rowSt y1 w.heap.size 0 (formC formZ)) := by
          have hq := rowSt_below (g := w.heap.size) (n := 0) (Nat.zero_le _) (formC formZ) 0 _ (Below.refl 0 y1)
          exact ⟨hq.os.trans hkd.os, hq.tape.trans hkd.tape, hq.output.trans hkd.output, Nat.le_trans hkd.size hq.size, fun k hk hn => (rowSt_other hn _ _ _).trans (by rw [HKD.out])⟩
        refine RegK.can_turns (fun _ => trivial) ?_
        intro K K0 hK hK0
        rw [if_pos (by simp [Region.wanted])]
        refine RegK.op_wide rfl ?_
        refine wp_store_mid 62 _ _ rfl w.heap.size 0 (formC formZ).toArray rfl rfl (there_row (cs := formC formZ) h6) (formC_size formZ) (all_oneCell_toArray (formC_one formZ)) ?_
        rw [show y1.setCells w.heap.size 0 (formC formZ).toArray.toList = rowSt y1 w.heap.size 0 (formC formZ) from st_eq _ _ _]
        refine hK _ _ hkz ?_
        clear hK K hK0 K0
        have HZ := Lib.hid (And.intro hza hzb)
        clear hza hzb h6 hkd hby
        generalize rowSt y1 w.heap.size 0 (formC formZ) = wz at *
        iterate 2 (refine RegK.can_reads ?_; intro K hK; go_simp; (first | refine ⟨_, fun _ _ => rfl, hK _ ?_⟩ | refine hK _ ?_); clear hK K)
        refine RegK.can_nil ?_
        go_wp2_with fail
        refine bodyPost_ret (v := .tuple #[formV formZ, .string wd, .bool false]) (by simp [results, Tryd.results28, show (asAddr (Value.pointer (some ⟨w.heap.size, 0, none⟩))).run Tryd.prog wz = .ok ⟨w.heap.size, 0, none⟩ wz from rfl, form_loadVar HZ.out.1]) rfl ?_
        exact .bad HZ.out.2 HRn.out _ _
      | some f =>
        have hMV : formM (.string wd.data.toList) = some (formV f) := by rw [formM_at, hfd]; rfl
        have HRn := Lib.hid (show formL ((x0 :: x1 :: wd :: r').map (·.data.toList)) = if (decide (f.d = 12) == true) then some f else none by rw [HL.out, hfd, Option.bind_some]; congr 1; rw [beq_iff_eq]; simp only [HI.out, decide_true])
        have HWD := Lib.hid (show f.w = wd.data.toList from of_decide_eq_true (find_mem hfd).2)
        have hd12 : ((f.d : Int) == 12) = decide (f.d = 12) := by rw [Bool.eq_iff_iff, beq_iff_eq, decide_eq_true_iff]; omega
        clear hfd
        go_upto_region 7 with (first
          | (go_at_call 24; refine (Hfm.out _).mono ?_; rintro e w2 ⟨rfl, hm2, hb2⟩; have H2 := Lib.hid (And.intro hm2 hb2); clear hm2 hb2)
          | (at_lookup; refine wpList_lookok_mp rfl _ _ 59 62 rfl lawS Tryd.underlying59 zero_form rfl H2.out.1 _ (.string wd.data.toList) rfl hkey ?_; rw [hMV])
          | ((with_reducible refine wpList_store_mid rfl 62 _ _ rfl w2.heap.size 0 _ rfl rfl ?_ ?_ ?_ ?_); exact th_new3 w2 (formC formZ) 62; exact formC_size f; exact all_oneCell_toArray (formC_one f)))
        change Code.wp _ _ _ _ ((w2.alloc (.cells (formC formZ).toArray 62)).setCells w2.heap.size 0 (formC f))
        have hbx := box_below w2 (formC formZ) (formC f) 62
        have HF := Lib.hid (show FormAt _ _ f from box_row w2 (formC formZ) (formC f) 62 rfl)
        have hb3 := HV.out.1.trans ((H2.out.2.trans (hbx.mono H2.out.2.size)).mono HV.out.1.size)
        have HBW := Lib.hid hb3
        have HGR := Lib.hid (HV.out.2.below (H2.out.2.trans (hbx.mono H2.out.2.size)))
        have HGX := Lib.hid (show w.heap.size < w2.heap.size from Nat.lt_of_lt_of_le HV.out.2.lt H2.out.2.size)
        clear hbx hb3 H2
        generalize (w2.alloc (.cells (formC formZ).toArray 62)).setCells w2.heap.size 0 (formC f) = w9 at *
        generalize w2.heap.size = gx at *
        refine (wpIn_wide (n := 1)).1 ?_
        refine RegK.wpIn_region_can (F := Fence.wide) (ButOne w.heap.size w9) [(0, 0), (1, 0), (2, 0), (3, 0), (4, 0), (5, 0), (6, 0), (7, 0), (8, 0), (9, 0), (10, 1), (11, 0), (12, 0)] (by kernel_rfl) (by kernel_rfl) (by kernel_rfl) (fun _ _ d _ _ h => by cases d <;> exact h) ⟨rfl, rfl, rfl, Nat.le_refl _, fun _ _ _ => rfl⟩ ?_
        dsimp only [RegK.pick, List.getElem?_cons_zero, List.getElem?_cons_succ]
        change RegK.Can _ _ _ _ _ _ _ _ w9.drew
        have hkd : ButOne w.heap.size w9 w9.drew := ⟨rfl, rfl, rfl, Nat.le_refl _, fun _ _ _ => rfl⟩
        have HKD := Lib.hid (show w9.drew.heap = w9.heap from rfl)
        generalize w9.drew = y1 at *
        refine RegK.can_reads ?_
        intro K hK
        rw [if_pos (by first | (simp [Region.wanted]; done) | (go_simp; done))]
        refine ⟨.agg (formC f).toArray, fun y hy => exec_load rfl rfl (row_loadAt (P := Tryd.prog) (cs := formC f) (ButOne.form hy HF.out HGX.out) Tryd.underlying62 rfl (formC_size f)), hK _ ?_⟩
        clear hK K
        go_simp
        iterate 4 (refine RegK.can_reads ?_; intro K hK; go_simp; (first | refine ⟨_, fun _ _ => rfl, hK _ ?_⟩ | refine hK _ ?_); clear hK K)
        refine RegK.can_reads ?_
        intro K hK
        go_simp
        refine ⟨.int .u8 (f.d : Int), fun y hy => ?_, hK _ ?_⟩
        · have f0 := (FormAt.cells (ButOne.form hy HF.out HGX.out)).1
          go_simp
        clear hK K
        iterate 4 (refine RegK.can_reads ?_; intro K hK; go_simp; (first | refine ⟨_, fun _ _ => rfl, hK _ ?_⟩ | refine hK _ ?_); clear hK K)
        have h6 : FormAt y1 w.heap.size formZ := by have h := HGR.out; unfold FormAt at h ⊢; rwa [HKD.out]
        have hza : FormAt (rowSt y1 w.heap.size 0 (formC f)) w.heap.size f := rowSt_row (formC f) [] (formC formZ) y1 h6 rfl
        have hby : Below w.heap.size w y1 := HBW.out.trans ⟨hkd.os, hkd.tape, hkd.output, hkd.size, fun k hk => by rw [HKD.out]⟩
        have hzb := rowSt_below (g := w.heap.size) (n := w.heap.size) (Nat.le_refl _) (formC f) 0 _ hby
        have hkz : ButOne w.heap.size w9 (rowSt y1 w.heap.size 0 (formC f)) := by
          have hq := rowSt_below (g := w.heap.size) (n := 0) (Nat.zero_le _) (formC f) 0 _ (Below.refl 0 y1)
          exact ⟨hq.os.trans hkd.os, hq.tape.trans hkd.tape, hq.output.trans hkd.output, Nat.le_trans hkd.size hq.size, fun k hk hn => (rowSt_other hn _ _ _).trans (by rw [HKD.out])⟩
        refine RegK.can_turns (fun _ => trivial) ?_
        intro K K0 hK hK0
        rw [if_pos (by simp [Region.wanted])]
        refine RegK.op_wide rfl ?_
        refine wp_store_mid 62 _ _ rfl w.heap.size 0 (formC f).toArray rfl rfl (there_row (cs := formC formZ) h6) (formC_size f) (all_oneCell_toArray (formC_one f)) ?_
        rw [show y1.setCells w.heap.size 0 (formC f).toArray.toList = rowSt y1 w.heap.size 0 (formC f) from st_eq _ _ _]
        refine hK _ _ hkz ?_
        clear hK K hK0 K0
        have HZ := Lib.hid (And.intro hza hzb)
        clear hza hzb h6 hkd hby
        generalize rowSt y1 w.heap.size 0 (formC f) = wz at *
        iterate 2 (refine RegK.can_reads ?_; intro K hK; go_simp; (first | refine ⟨_, fun _ _ => rfl, hK _ ?_⟩ | refine hK _ ?_); clear hK K)
        refine RegK.can_nil ?_
        go_wp2_with fail
        refine bodyPost_ret (v := .tuple #[formV f, .string wd, .bool (decide (f.d = 12) == true)]) (by simp [results, Tryd.results28, show (asAddr (Value.pointer (some ⟨w.heap.size, 0, none⟩))).run Tryd.prog wz = .ok ⟨w.heap.size, 0, none⟩ wz from rfl, form_loadVar HZ.out.1]) rfl ?_
        exact .good HZ.out.2 HRn.out HWD.out.symm
  · have hbe1 : (x0.toList == [105, 110, 118, 111, 107, 101]) = false := by rw [hbe, decide_eq_false hI]
    have HI := Lib.hid hI
    rw [hbe1]
    clear hbe hbe1
    obtain ⟨wd, hwd0⟩ : ∃ wd, wd = x0 := ⟨_, rfl⟩
    have HL := Lib.hid (formL_of (ws := (x0 :: r).map (·.data.toList)) rfl (fun h => hI h.1) x0.data.toList (by rw [if_neg hI]))
    clear hI
    subst hwd0
    have hwd := hx0
    have Hfm := Lib.hid (fun y : World => forms_any y)
    have hkey := key_ks (s := wd) (by unfold maxLen; omega)
    cases hfd : FT.find? (fun f => decide (f.w = wd.data.toList)) with
    | none =>
      have hMV : formM (.string wd.data.toList) = none := by rw [formM_at, hfd]; rfl
      have HRn := Lib.hid (show formL ((wd :: r).map (·.data.toList)) = none by rw [HL.out, hfd]; rfl)
      clear hfd
      go_upto_region 7 with (first
        | (go_at_call 24; refine (Hfm.out _).mono ?_; rintro e w2 ⟨rfl, hm2, hb2⟩; have H2 := Lib.hid (And.intro hm2 hb2); clear hm2 hb2)
        | (at_lookup; refine wpList_lookok_mp rfl _ _ 59 62 rfl lawS Tryd.underlying59 zero_form rfl H2.out.1 _ (.string wd.data.toList) rfl hkey ?_; rw [hMV])
        | ((with_reducible refine wpList_store_mid rfl 62 _ _ rfl w2.heap.size 0 _ rfl rfl ?_ ?_ ?_ ?_); exact th_new3 w2 (formC formZ) 62; exact formC_size formZ; exact all_oneCell_toArray (formC_one formZ)))
      change Code.wp _ _ _ _ ((w2.alloc (.cells (formC formZ).toArray 62)).setCells w2.heap.size 0 (formC formZ))
      have hbx := box_below w2 (formC formZ) (formC formZ) 62
      have HF := Lib.hid (show FormAt _ _ formZ from box_row w2 (formC formZ) (formC formZ) 62 rfl)
      have hb3 := HV.out.1.trans ((H2.out.2.trans (hbx.mono H2.out.2.size)).mono HV.out.1.size)
      have HBW := Lib.hid hb3
      have HGR := Lib.hid (HV.out.2.below (H2.out.2.trans (hbx.mono H2.out.2.size)))
      have HGX := Lib.hid (show w.heap.size < w2.heap.size from Nat.lt_of_lt_of_le HV.out.2.lt H2.out.2.size)
      clear hbx hb3 H2
      generalize (w2.alloc (.cells (formC formZ).toArray 62)).setCells w2.heap.size 0 (formC formZ) = w9 at *
      generalize w2.heap.size = gx at *
      refine (wpIn_wide (n := 1)).1 ?_
      refine RegK.wpIn_region_can (F := Fence.wide) (ButOne w.heap.size w9) [(0, 0), (1, 0), (2, 0), (3, 0), (4, 0), (5, 0), (6, 0), (7, 0), (8, 0), (9, 0), (10, 1), (11, 0), (12, 0)] (by kernel_rfl) (by kernel_rfl) (by kernel_rfl) (fun _ _ d _ _ h => by cases d <;> exact h) ⟨rfl, rfl, rfl, Nat.le_refl _, fun _ _ _ => rfl⟩ ?_
      dsimp only [RegK.pick, List.getElem?_cons_zero, List.getElem?_cons_succ]
      change RegK.Can _ _ _ _ _ _ _ _ w9.drew
      have hkd : ButOne w.heap.size w9 w9.drew := ⟨rfl, rfl, rfl, Nat.le_refl _, fun _ _ _ => rfl⟩
      have HKD := Lib.hid (show w9.drew.heap = w9.heap from rfl)
      generalize w9.drew = y1 at *
      refine RegK.can_reads ?_
      intro K hK
      rw [if_pos (by first | (simp [Region.wanted]; done) | (go_simp; done))]
      refine ⟨.agg (formC formZ).toArray, fun y hy => exec_load rfl rfl (row_loadAt (P := Tryd.prog) (cs := formC formZ) (ButOne.form hy HF.out HGX.out) Tryd.underlying62 rfl (formC_size formZ)), hK _ ?_⟩
      clear hK K
      go_simp
      iterate 3 (refine RegK.can_reads ?_; intro K hK; go_simp; (first | refine ⟨_, fun _ _ => rfl, hK _ ?_⟩ | refine hK _ ?_); clear hK K)
      (refine RegK.can_reads ?_; intro K hK; go_simp; refine hK _ ?_; clear hK K)
      (refine RegK.can_reads ?_; intro K hK; go_simp; refine hK _ ?_; clear hK K)
      (refine RegK.can_reads ?_; intro K hK; go_simp; refine hK _ ?_; clear hK K)
      (refine RegK.can_reads ?_; intro K hK; go_simp; refine hK _ ?_; clear hK K)
      (refine RegK.can_reads ?_; intro K hK; go_simp; refine hK _ ?_; clear hK K)
      refine RegK.can_reads ?_; intro K hK; go_simp; (first | refine ⟨_, fun _ _ => rfl, hK _ ?_⟩ | refine hK _ ?_); clear hK K
      have h6 : FormAt y1 w.heap.size formZ := by have h := HGR.out; unfold FormAt at h ⊢; rwa [HKD.out]
      have hza : FormAt (rowSt y1 w.heap.size 0 (formC formZ)) w.heap.size formZ := rowSt_row (formC formZ) [] (formC formZ) y1 h6 rfl
      have hby : Below w.heap.size w y1 := HBW.out.trans ⟨hkd.os, hkd.tape, hkd.output, hkd.size, fun k hk => by rw [HKD.out]⟩
      have hzb := rowSt_below (g := w.heap.size) (n := w.heap.size) (Nat.le_refl _) (formC formZ) 0 _ hby
      have hkz : ButOne w.heap.size w9 (rowSt y1 w.heap.size 0 (formC formZ)) := by
        have hq := rowSt_below (g := w.heap.size) (n := 0) (Nat.zero_le _) (formC formZ) 0 _ (Below.refl 0 y1)
        exact ⟨hq.os.trans hkd.os, hq.tape.trans hkd.tape, hq.output.trans hkd.output, Nat.le_trans hkd.size hq.size, fun k hk hn => (rowSt_other hn _ _ _).trans (by rw [HKD.out])⟩
      refine RegK.can_turns (fun _ => trivial) ?_
      intro K K0 hK hK0
      rw [if_pos (by simp [Region.wanted])]
      refine RegK.op_wide rfl ?_
      refine wp_store_mid 62 _ _ rfl w.heap.size 0 (formC formZ).toArray rfl rfl (there_row (cs := formC formZ) h6) (formC_size formZ) (all_oneCell_toArray (formC_one formZ)) ?_
      rw [show y1.setCells w.heap.size 0 (formC formZ).toArray.toList = rowSt y1 w.heap.size 0 (formC formZ) from st_eq _ _ _]
      refine hK _ _ hkz ?_
      clear hK K hK0 K0
      have HZ := Lib.hid (And.intro hza hzb)
      clear hza hzb h6 hkd hby
      generalize rowSt y1 w.heap.size 0 (formC formZ) = wz at *
      iterate 2 (refine RegK.can_reads ?_; intro K hK; go_simp; (first | refine ⟨_, fun _ _ => rfl, hK _ ?_⟩ | refine hK _ ?_); clear hK K)
      refine RegK.can_nil ?_
      go_wp2_with fail
      refine bodyPost_ret (v := .tuple #[formV formZ, .string wd, .bool false]) (by simp [results, Tryd.results28, show (asAddr (Value.pointer (some ⟨w.heap.size, 0, none⟩))).run Tryd.prog wz = .ok ⟨w.heap.size, 0, none⟩ wz from rfl, form_loadVar HZ.out.1]) rfl ?_
      exact .bad HZ.out.2 HRn.out _ _
    | some f =>
      have hMV : formM (.string wd.data.toList) = some (formV f) := by rw [formM_at, hfd]; rfl
      have HRn := Lib.hid (show formL ((wd :: r).map (·.data.toList)) = if (decide (f.d = 12) == false) then some f else none by rw [HL.out, hfd, Option.bind_some]; congr 1; rw [beq_iff_eq]; simp only [HI.out, decide_false])
      have HWD := Lib.hid (show f.w = wd.data.toList from of_decide_eq_true (find_mem hfd).2)
      have hd12 : ((f.d : Int) == 12) = decide (f.d = 12) := by rw [Bool.eq_iff_iff, beq_iff_eq, decide_eq_true_iff]; omega
      clear hfd
      go_upto_region 7 with (first
        | (go_at_call 24; refine (Hfm.out _).mono ?_; rintro e w2 ⟨rfl, hm2, hb2⟩; have H2 := Lib.hid (And.intro hm2 hb2); clear hm2 hb2)
        | (at_lookup; refine wpList_lookok_mp rfl _ _ 59 62 rfl lawS Tryd.underlying59 zero_form rfl H2.out.1 _ (.string wd.data.toList) rfl hkey ?_; rw [hMV])
        | ((with_reducible refine wpList_store_mid rfl 62 _ _ rfl w2.heap.size 0 _ rfl rfl ?_ ?_ ?_ ?_); exact th_new3 w2 (formC formZ) 62; exact formC_size f; exact all_oneCell_toArray (formC_one f)))
      change Code.wp _ _ _ _ ((w2.alloc (.cells (formC formZ).toArray 62)).setCells w2.heap.size 0 (formC f))
      have hbx := box_below w2 (formC formZ) (formC f) 62
      have HF := Lib.hid (show FormAt _ _ f from box_row w2 (formC formZ) (formC f) 62 rfl)
      have hb3 := HV.out.1.trans ((H2.out.2.trans (hbx.mono H2.out.2.size)).mono HV.out.1.size)
      have HBW := Lib.hid hb3
      have HGR := Lib.hid (HV.out.2.below (H2.out.2.trans (hbx.mono H2.out.2.size)))
      have HGX := Lib.hid (show w.heap.size < w2.heap.size from Nat.lt_of_lt_of_le HV.out.2.lt H2.out.2.size)
      clear hbx hb3 H2
      generalize (w2.alloc (.cells (formC formZ).toArray 62)).setCells w2.heap.size 0 (formC f) = w9 at *
      generalize w2.heap.size = gx at *
      refine (wpIn_wide (n := 1)).1 ?_
      refine RegK.wpIn_region_can (F := Fence.wide) (ButOne w.heap.size w9) [(0, 0), (1, 0), (2, 0), (3, 0), (4, 0), (5, 0), (6, 0), (7, 0), (8, 0), (9, 0), (10, 1), (11, 0), (12, 0)] (by kernel_rfl) (by kernel_rfl) (by kernel_rfl) (fun _ _ d _ _ h => by cases d <;> exact h) ⟨rfl, rfl, rfl, Nat.le_refl _, fun _ _ _ => rfl⟩ ?_
      dsimp only [RegK.pick, List.getElem?_cons_zero, List.getElem?_cons_succ]
      change RegK.Can _ _ _ _ _ _ _ _ w9.drew
      have hkd : ButOne w.heap.size w9 w9.drew := ⟨rfl, rfl, rfl, Nat.le_refl _, fun _ _ _ => rfl⟩
      have HKD := Lib.hid (show w9.drew.heap = w9.heap from rfl)
      generalize w9.drew = y1 at *
      refine RegK.can_reads ?_
      intro K hK
      rw [if_pos (by first | (simp [Region.wanted]; done) | (go_simp; done))]
      refine ⟨.agg (formC f).toArray, fun y hy => exec_load rfl rfl (row_loadAt (P := Tryd.prog) (cs := formC f) (ButOne.form hy HF.out HGX.out) Tryd.underlying62 rfl (formC_size f)), hK _ ?_⟩
      clear hK K
      go_simp
      iterate 4 (refine RegK.can_reads ?_; intro K hK; go_simp; (first | refine ⟨_, fun _ _ => rfl, hK _ ?_⟩ | refine hK _ ?_); clear hK K)
      refine RegK.can_reads ?_
      intro K hK
      go_simp
      refine ⟨.int .u8 (f.d : Int), fun y hy => ?_, hK _ ?_⟩
      · have f0 := (FormAt.cells (ButOne.form hy HF.out HGX.out)).1
        go_simp
      clear hK K
      iterate 4 (refine RegK.can_reads ?_; intro K hK; go_simp; (first | refine ⟨_, fun _ _ => rfl, hK _ ?_⟩ | refine hK _ ?_); clear hK K)
      have h6 : FormAt y1 w.heap.size formZ := by have h := HGR.out; unfold FormAt at h ⊢; rwa [HKD.out]
      have hza : FormAt (rowSt y1 w.heap.size 0 (formC f)) w.heap.size f := rowSt_row (formC f) [] (formC formZ) y1 h6 rfl
      have hby : Below w.heap.size w y1 := HBW.out.trans ⟨hkd.os, hkd.tape, hkd.output, hkd.size, fun k hk => by rw [HKD.out]⟩
      have hzb := rowSt_below (g := w.heap.size) (n := w.heap.size) (Nat.le_refl _) (formC f) 0 _ hby
      have hkz : ButOne w.heap.size w9 (rowSt y1 w.heap.size 0 (formC f)) := by
        have hq := rowSt_below (g := w.heap.size) (n := 0) (Nat.zero_le _) (formC f) 0 _ (Below.refl 0 y1)
        exact ⟨hq.os.trans hkd.os, hq.tape.trans hkd.tape, hq.output.trans hkd.output, Nat.le_trans hkd.size hq.size, fun k hk hn => (rowSt_other hn _ _ _).trans (by rw [HKD.out])⟩
      refine RegK.can_turns (fun _ => trivial) ?_
      intro K K0 hK hK0
      rw [if_pos (by simp [Region.wanted])]
      refine RegK.op_wide rfl ?_
      refine wp_store_mid 62 _ _ rfl w.heap.size 0 (formC f).toArray rfl rfl (there_row (cs := formC formZ) h6) (formC_size f) (all_oneCell_toArray (formC_one f)) ?_
      rw [show y1.setCells w.heap.size 0 (formC f).toArray.toList = rowSt y1 w.heap.size 0 (formC f) from st_eq _ _ _]
      refine hK _ _ hkz ?_
      clear hK K hK0 K0
      have HZ := Lib.hid (And.intro hza hzb)
      clear hza hzb h6 hkd hby
      generalize rowSt y1 w.heap.size 0 (formC f) = wz at *
      iterate 2 (refine RegK.can_reads ?_; intro K hK; go_simp; (first | refine ⟨_, fun _ _ => rfl, hK _ ?_⟩ | refine hK _ ?_); clear hK K)
      refine RegK.can_nil ?_
      go_wp2_with fail
      refine bodyPost_ret (v := .tuple #[formV f, .string wd, .bool (decide (f.d = 12) == false)]) (by simp [results, Tryd.results28, show (asAddr (Value.pointer (some ⟨w.heap.size, 0, none⟩))).run Tryd.prog wz = .ok ⟨w.heap.size, 0, none⟩ wz from rfl, form_loadVar HZ.out.1]) rfl ?_
      exact .good HZ.out.2 HRn.out HWD.out.symm
end Go.Proofs.YtjjlodeiejobdaaDoor
