/- Play: Parse. Condition: the text is not too long; the library's variables hold what the program's text lays. -/
import Derived.Test.YtjjlodeiejobdaaDoorPyH
namespace Go.Proofs.YtjjlodeiejobdaaDoor
open Go.RowKit Go.Shelf Go.Deep
attribute [local go_sem] Oper.semAt_some
set_option maxRecDepth 100000 in
set_option maxHeartbeats 16000000 in
theorem Parse_in (x : ByteArray) (hxs : x.size ≤ 1000000) (w : World) (hv : PV w) :
    CallsIn Fence.wide 9 Tryd.prog 11 #[.string x] w (PrsR (prsL (fltB 0 (pcsB 10 x)) []) w) := by
  have HPV := Lib.hid (PVB.of hv)
  clear hv
  refine callsIn_of_wp_marks Tryd.func11 rfl trivial ?_ rfl
  simp only [Tryd.ntmps11, List.size_toArray, List.length_cons, List.length_nil, Nat.reduceAdd, Nat.reduceSub, Array.replicate_succ, Array.replicate_zero, List.push_toArray, List.append_toArray, List.nil_append, List.cons_append]
  gi_wp2_with (first
    | (refine ⟨trivial, ?_⟩; refine (lines_in _ _ _).mono ?_; rintro e w1 ⟨rfl, rfl⟩; dsimp only)
    | gi_in)
  simp only [World.size_alloc, Nat.add_assoc, Nat.reduceAdd]
  have e1 : (w.alloc (.cells #[.slice none 0 0] 22)).heap.size = w.heap.size + 1 := World.size_alloc _ _
  generalize hE1 : w.alloc (.cells #[.slice none 0 0] 22) = E1 at *
  have r0 : E1.heap[w.heap.size]? = some (.cells #[.slice none 0 0] 22 (0, 0)) := by rw [← hE1]; exact heap_alloc_new _ _
  have b1 : Below w.heap.size w E1 := by rw [← hE1]; exact (Below.refl _ _).alloc (Nat.le_refl _) _
  have e2 : (E1.alloc (.cells #[.int .i64 0] 3)).heap.size = w.heap.size + 2 := by rw [World.size_alloc, e1]
  have r1 : (E1.alloc (.cells #[.int .i64 0] 3)).heap[w.heap.size + 1]? = some (.cells #[.int .i64 0] 3 (0, 0)) := by rw [← e1]; exact heap_alloc_new _ _
  have b2 := (Below.refl E1.heap.size E1).alloc (Nat.le_refl _) (.cells #[.int .i64 0] 3)
  generalize E1.alloc (.cells #[.int .i64 0] 3) = E2 at *
  have e3 : (E2.alloc (.cells #[.int .i64 0] 25)).heap.size = w.heap.size + 3 := by rw [World.size_alloc, e2]
  have r2 : (E2.alloc (.cells #[.int .i64 0] 25)).heap[w.heap.size + 2]? = some (.cells #[.int .i64 0] 25 (0, 0)) := by rw [← e2]; exact heap_alloc_new _ _
  have b3 := (Below.refl E2.heap.size E2).alloc (Nat.le_refl _) (.cells #[.int .i64 0] 25)
  generalize E2.alloc (.cells #[.int .i64 0] 25) = E3 at *
  have e4 : (E3.alloc (.cells #[.slice none 0 0] 22)).heap.size = w.heap.size + 4 := by rw [World.size_alloc, e3]
  have r3 : (E3.alloc (.cells #[.slice none 0 0] 22)).heap[w.heap.size + 3]? = some (.cells #[.slice none 0 0] 22 (0, 0)) := by rw [← e3]; exact heap_alloc_new _ _
  have b4 := (Below.refl E3.heap.size E3).alloc (Nat.le_refl _) (.cells #[.slice none 0 0] 22)
  generalize E3.alloc (.cells #[.slice none 0 0] 22) = E4 at *
  have e5 : (E4.alloc (.cells #[.string x] 9)).heap.size = w.heap.size + 5 := by rw [World.size_alloc, e4]
  have r4 : (E4.alloc (.cells #[.string x] 9)).heap[w.heap.size + 4]? = some (.cells #[.string x] 9 (0, 0)) := by rw [← e4]; exact heap_alloc_new _ _
  have b5 := (Below.refl E4.heap.size E4).alloc (Nat.le_refl _) (.cells #[.string x] 9)
  generalize E4.alloc (.cells #[.string x] 9) = E5 at *
  have q4 := (b5.block (w.heap.size + 3) (by omega)).trans r3
  have b35 := b4.trans (b5.mono b4.size)
  have q3 := (b35.block (w.heap.size + 2) (by omega)).trans r2
  have b25 := b3.trans (b35.mono b3.size)
  have q2 := (b25.block (w.heap.size + 1) (by omega)).trans r1
  have b15 := b2.trans (b25.mono b2.size)
  have q1 := (b15.block (w.heap.size) (by omega)).trans r0
  have bA := b1.trans (b15.mono b1.size)
  have HI0 := Lib.hid (show PrI w (fltB 0 (pcsB 10 x)) [] E5 [] (.slice none 0 0) from ⟨rfl, Nat.zero_le _, q1, q2, q3, q4, World.ownsRow_nil _ _ _ _, bA⟩)
  have HPC := Lib.hid (fun (p : Nat × ByteArray) (pre : List (Nat × ByteArray)) (h : (pre ++ [p]) <+: fltB 0 (pcsB 10 x)) => show p.2.size ≤ 1000000 from Nat.le_trans (pcs_size (c := 10) (s := x) (flt_mem (h.subset (by simp)))) hxs)
  clear q1 q2 q3 q4 bA b15 b25 b35 b1 b2 b3 b4 b5 r0 r1 r2 r3 e1 e2 e3 e4 hE1
  clear E1 E2 E3 E4
  refine wpIn_rangeZ rfl (by decide) (gf := 38) (lb := #[.pointer (some ⟨w.heap.size + 4, 0, none⟩)]) rfl trivial (enters_of Tryd.func38 (by kernel_rfl) rfl)
    (ln_stops _ (w.heap.size + 4) x hxs E5 r4) (Below.refl _ _) (fun r hr => hr.elim) (fun _ => rfl)
    (Z := fun r => False ∨ (E5.heap.size ≤ r ∧ r < E5.heap.size + 2 + 7)) (fun _ => Iff.rfl)
    (fun pre W' => ∃ acc v, PrI w (fltB 0 (pcsB 10 x)) pre W' acc v)
    (fun c _ W' => c = .ret ∧ PrX w (fltB 0 (pcsB 10 x)) W')
    (fun s A B row hs hg hr => ?hI) (fun c s A B row hs hg hr => ?hIx) ⟨[], _, HI0.out⟩
    (fun p => { tmps := #[.string x, undef, .pointer (some ⟨w.heap.size, 0, none⟩), .pointer (some ⟨w.heap.size + 1, 0, none⟩), .pointer (some ⟨w.heap.size + 2, 0, none⟩), .pointer (some ⟨w.heap.size + 3, 0, none⟩), .int .i64 (p.1 : Int), .string p.2, undef, undef, .string x, .func (.func 38) #[] #[.pointer (some ⟨w.heap.size + 4, 0, none⟩)], .int .i64 (p.1 : Int), .string p.2, undef, undef, undef, undef, undef, undef, undef, undef, undef, undef, undef, undef, undef, undef, undef, undef, undef], defers := [] }) ?assign ?body ?done ?stop
  case hI =>
    have hz : ∀ r, row = some r → w.heap.size + 4 ≤ r ∧ r < w.heap.size + 14 := fun r e => by rcases hr r e with h | h; exact h.elim; omega
    obtain ⟨acc, v, hs⟩ := hs
    exact ⟨acc, v, hs.turn hg hz⟩
  case hIx =>
    have hz : ∀ r, row = some r → w.heap.size + 4 ≤ r := fun r e => by rcases hr r e with h | h; exact h.elim; omega
    exact ⟨hs.1, hs.2.turn hg hz⟩
  case assign =>
    intro l' p W' K hK
    gi_wp2
    exact hK
  case body =>
    rintro l' pre ⟨nn, p⟩ W1 ⟨acc, v, hI⟩ hbig hSp
    have HRd := Lib.hid (read_any p (HPC.out (nn, p) pre hSp) W1 (HPV.out.on hI.bel).here)
    obtain ⟨A, c, rfl⟩ := own_slc hI.own
    have HI := Lib.hid hI
    have HS := Lib.hid (And.intro hSp hbig)
    clear hI hSp hbig r4
    cases hrd : rdL p.data.toList with
    | none =>
      rw [hrd] at HRd
      have HX := Lib.hid (HI.out.spec.trans (prs_bad HS.out.1 hrd))
      clear hrd
      gi_wp2_with (first
        | (refine ⟨trivial, ?_⟩; refine (CallsIn.inRound l' (callsIn_wide.2 HRd.out)).mono ?_; rintro e w2 ⟨hb2, s2, rfl, hs2⟩; dsimp only; have H2 := Lib.hid hb2; clear hb2 hs2)
        | ((with_reducible refine wpListIn_store_row rfl 39 _ _ rfl w2.heap.size 0 _ rfl rfl ?_ ?_ ?_ ?_); exact th_new3 w2 (stpC (stp0 0 0)) 39; exact stpC_size s2; exact all_oneCell_toArray (stpC_one s2)
           change wpListIn _ _ _ _ _ _ _ ((w2.alloc (.cells (stpC (stp0 0 0)).toArray 39)).setCells w2.heap.size 0 (stpC s2))
           have hbx := box_below w2 (stpC (stp0 0 0)) (stpC s2) 39
           have hs3 : StpAt _ _ s2 := box_row w2 (stpC (stp0 0 0)) (stpC s2) 39 rfl
           have H3 := Lib.hid (And.intro hs3 (And.intro (HI.out.blw (H2.out.trans (hbx.mono H2.out.size))) (H2.out.trans (hbx.mono H2.out.size))))
           clear hbx hs3
           generalize (w2.alloc (.cells (stpC (stp0 0 0)).toArray 39)).setCells w2.heap.size 0 (stpC s2) = w3 at *
           generalize w2.heap.size = g3 at *
           obtain ⟨c0, f0, c1, f1, c2, f2, c3, f3⟩ := H3.out.2.1.cells)
        | gi_in)
      have hL := H3.out.2.1.leave HX.out
      have hkp : KeptZ (fun r => w.heap.size + 4 ≤ r) W1 w3 := fun r o _ ho => (H3.out.2.2.block r (Array.getElem?_eq_some_iff.1 ho).1).trans ho
      exact ⟨(hkp.trans hL.1).sub (fun r hr => by have hr2 : w.heap.size + 5 ≤ r ∧ _ := hr; omega), rfl, hL.2⟩
    | some s =>
      rw [hrd] at HRd
      by_cases hl : acc.length = 400
      · have hq : ((acc.length : Int) == 400) = true := by simp [hl]
        have HX := Lib.hid (HI.out.spec.trans (prs_full HS.out.1 hrd hl))
        clear hrd hl
        gi_wp2_with (first
          | (refine ⟨trivial, ?_⟩; refine (CallsIn.inRound l' (callsIn_wide.2 HRd.out)).mono ?_; rintro e w2 ⟨hb2, s2, rfl, hs2⟩; dsimp only; have H2 := Lib.hid hb2; obtain rfl := hs2 s rfl; clear hb2 hs2)
          | ((with_reducible refine wpListIn_store_row rfl 39 _ _ rfl w2.heap.size 0 _ rfl rfl ?_ ?_ ?_ ?_); exact th_new3 w2 (stpC (stp0 0 0)) 39; exact stpC_size s2; exact all_oneCell_toArray (stpC_one s2)
             change wpListIn _ _ _ _ _ _ _ ((w2.alloc (.cells (stpC (stp0 0 0)).toArray 39)).setCells w2.heap.size 0 (stpC s2))
             have hbx := box_below w2 (stpC (stp0 0 0)) (stpC s2) 39
             have hs3 : StpAt _ _ s2 := box_row w2 (stpC (stp0 0 0)) (stpC s2) 39 rfl
             have H3 := Lib.hid (And.intro hs3 (And.intro (HI.out.blw (H2.out.trans (hbx.mono H2.out.size))) (H2.out.trans (hbx.mono H2.out.size))))
             clear hbx hs3
             generalize (w2.alloc (.cells (stpC (stp0 0 0)).toArray 39)).setCells w2.heap.size 0 (stpC s2) = w3 at *
             generalize w2.heap.size = g3 at *
             obtain ⟨c0, f0, c1, f1, c2, f2, c3, f3⟩ := H3.out.2.1.cells)
          | gi_in)
        have hL := H3.out.2.1.leave HX.out
        have hkp : KeptZ (fun r => w.heap.size + 4 ≤ r) W1 w3 := fun r o _ ho => (H3.out.2.2.block r (Array.getElem?_eq_some_iff.1 ho).1).trans ho
        exact ⟨(hkp.trans hL.1).sub (fun r hr => by have hr2 : w.heap.size + 5 ≤ r ∧ _ := hr; omega), rfl, hL.2⟩
      · have hq : ((acc.length : Int) == 400) = false := by simpa using (by omega : ¬ (acc.length : Int) = 400)
        have HX := Lib.hid (HI.out.spec.trans (prs_next HS.out.1 hrd hl))
        have HB14 := Lib.hid (show w.heap.size + 14 ≤ W1.heap.size from by have := HS.out.2; omega)
        have HL := Lib.hid hl
        have HX0 := Lib.hid (prs_next HS.out.1 hrd hl)
        have HM := Lib.hid (show acc.length + 1 ≤ maxLen ∧ (acc.length + 1) * 88 ≤ 140737488355328 from by have := HI.out.len; unfold maxLen; omega)
        obtain ⟨iT, hiT, hzT, hsT, hbT⟩ := info_parts infoT
        clear hrd hl
        gi_wp2_with (first
          | (refine ⟨trivial, ?_⟩; refine (CallsIn.inRound l' (callsIn_wide.2 HRd.out)).mono ?_; rintro e w2 ⟨hb2, s2, rfl, hs2⟩; dsimp only; have H2 := Lib.hid hb2; obtain rfl := hs2 s rfl; clear hb2 hs2)
          | ((with_reducible refine wpListIn_store_row rfl 39 _ _ rfl w2.heap.size 0 _ rfl rfl ?_ ?_ ?_ ?_); exact th_new3 w2 (stpC (stp0 0 0)) 39; exact stpC_size s2; exact all_oneCell_toArray (stpC_one s2)
             change wpListIn _ _ _ _ _ _ _ ((w2.alloc (.cells (stpC (stp0 0 0)).toArray 39)).setCells w2.heap.size 0 (stpC s2))
             have hbx := box_below w2 (stpC (stp0 0 0)) (stpC s2) 39
             have hs3 : StpAt _ _ s2 := box_row w2 (stpC (stp0 0 0)) (stpC s2) 39 rfl
             have H3 := Lib.hid (And.intro hs3 (And.intro (HI.out.blw (H2.out.trans (hbx.mono H2.out.size))) (H2.out.trans (hbx.mono H2.out.size))))
             clear hbx hs3
             generalize (w2.alloc (.cells (stpC (stp0 0 0)).toArray 39)).setCells w2.heap.size 0 (stpC s2) = w3 at *
             generalize w2.heap.size = g3 at *
             obtain ⟨c0, f0, c1, f1, c2, f2, c3, f3⟩ := H3.out.2.1.cells
             have HR3 : Hid (w3.rangeAt g3 0 [.int .u8 (s2.d : Int), .int .u8 (s2.a : Int), .int .u8 (s2.b : Int), .int .i64 s2.k, .int .u8 (s2.cl : Int), .int .u32 (s2.sq : Int), .int .u8 (s2.kd : Int), .string ⟨s2.y.toArray⟩, .string ⟨s2.o.toArray⟩, .string ⟨s2.n.toArray⟩, .int .u8 (s2.st : Int)]) := Lib.hid (range_row H3.out.1))
          | (with_reducible refine wpListIn_load_row rfl 39 _ rfl g3 0 rfl [.int .u8 (s2.d : Int), .int .u8 (s2.a : Int), .int .u8 (s2.b : Int), .int .i64 s2.k, .int .u8 (s2.cl : Int), .int .u32 (s2.sq : Int), .int .u8 (s2.kd : Int), .string ⟨s2.y.toArray⟩, .string ⟨s2.o.toArray⟩, .string ⟨s2.n.toArray⟩, .int .u8 (s2.st : Int)] _ HR3.out Tryd.underlying39 rfl (stp11_size _ _ _ _ _ _ _ _ _ _ _) ?_)
          | (gi_at_builtin; refine wpListIn_append_own _ rfl _ _ 22 rfl (w.heap.size + 14) 39 iT (.agg (stpC (stp0 0 0)).toArray) 11 88 Tryd.underlying22 hiT hzT hsT hbT rfl (by decide) _ _ _ rfl (World.ownsRow.alloc H3.out.2.1.own _) ⟨w3.heap.size, 0, none⟩ 1 1 [.int .u8 (s2.d : Int), .int .u8 (s2.a : Int), .int .u8 (s2.b : Int), .int .i64 s2.k, .int .u8 (s2.cl : Int), .int .u32 (s2.sq : Int), .int .u8 (s2.kd : Int), .string ⟨s2.y.toArray⟩, .string ⟨s2.o.toArray⟩, .string ⟨s2.n.toArray⟩, .int .u8 (s2.st : Int)] rfl rfl (cells_newS w3 _ _) (stpC_one s2) HM.out.1 HM.out.2 (grow_size HB14.out H3.out.2.2.size) ?_
             intro v4 w4 ho4 hg4 _
             have HN := Lib.hid (H3.out.2.1.next HX0.out HL.out ho4 hg4 (by have := HS.out.2; have := H3.out.2.2.size; omega))
             have hge := fun k hk => (World.ownsRow.lt H3.out.2.1.own k hk).1
             have r3 := (hg4.block (w.heap.size + 3) (by have := HS.out.2; have := H3.out.2.2.size; simp; omega) (fun e => by have := hge _ e.symm; omega)).trans ((Below.heap_alloc _ _ _ (by have := HS.out.2; have := H3.out.2.2.size; omega)).trans H3.out.2.1.r3)
             have c4 : w4.cell? ⟨w.heap.size + 3, 0, none⟩ = some (.slice A acc.length c) := cell_of_row _ _ _ _ _ _ r3
             have f4 := thaw_row 0 r3
             obtain ⟨A4, c4', rfl⟩ := own_slc ho4
             clear ho4 hg4 hge r3 c0 f0 c1 f1 c2 f2 c3 f3)
          | gi_in)
        have hkp : KeptZ (fun r => w.heap.size + 4 ≤ r ∧ r < w.heap.size + 14) W1 w3 := fun r o _ ho => (H3.out.2.2.block r (Array.getElem?_eq_some_iff.1 ho).1).trans ho
        exact ⟨(hkp.trans HN.out.1).sub (fun r hr => by first | (have hr2 : w.heap.size + 5 ≤ r ∧ r < w.heap.size + 5 + 2 + 7 := hr; constructor <;> omega) | (rcases hr with h | h; exact h.elim; constructor <;> omega)), _, _, HN.out.2⟩
  case done =>
    rintro ys W' rfl ⟨acc, v, hI⟩ hK
    obtain ⟨A, c, rfl⟩ := own_slc hI.own
    obtain ⟨c0, f0, c1, f1, c2, f2, c3, f3⟩ := hI.cells
    have HI := Lib.hid (hI.fin (D := E5.heap.size) ⟨by omega, by omega⟩ hK)
    clear hI hK
    gi_wp2
    obtain ⟨hK2, Y, hY, y0, y1, y2, hP⟩ := HI.out
    refine ⟨by simp, .inl ⟨_, _, rfl, run_takeDeferred hK2, ?_⟩⟩
    rw [← hY]
    refine ⟨.tuple #[.slice A acc.length c, .int .i64 0, .int .i64 0], ?_, hP⟩
    simp [results, Tryd.results11, go_sem, y0, y1, y2] <;> rfl
  case stop =>
    rintro c pre W' hSp ⟨rfl, hX⟩ hK
    gi_wp2
    obtain ⟨Y, n, e, hY, y0, y1, y2, hP⟩ := hX.fin (D := E5.heap.size) (by omega)
    refine ⟨by simp, .inl ⟨_, _, rfl, run_takeDeferred hK, ?_⟩⟩
    rw [← hY]
    refine ⟨.tuple #[.slice none 0 0, .int .i64 (n : Int), .int .i64 (e : Int)], ?_, hP⟩
    simp [results, Tryd.results11, go_sem, y0, y1, y2] <;> rfl
end Go.Proofs.YtjjlodeiejobdaaDoor
