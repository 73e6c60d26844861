/- Sessions: Keep, of a fresh command. Condition: the client is one of four, the number is greater than its last one. -/
import Derived.Test.YtbckjgageofldaaGreatZLearnNil13
namespace Go.Proofs.YtbckjgageofldaaGreat
open Go.RowKit
def tabNone : TabV := ⟨lastNone, lastNone, lastNone, lastNone⟩
theorem TabAt.cells {w : World} {g : Nat} {t : TabV} (h : TabAt w g t) :
  (w.cell? ⟨g, 0, none⟩ = some (.int .u32 (t.a.seq.toNat : Int)) ∧ w.cell? ⟨g, 1, none⟩ = some (.int .u8 (t.a.code : Int)) ∧ w.cell? ⟨g, 2, none⟩ = some (.string t.a.text)) ∧
  (w.cell? ⟨g, 3, none⟩ = some (.int .u32 (t.b.seq.toNat : Int)) ∧ w.cell? ⟨g, 4, none⟩ = some (.int .u8 (t.b.code : Int)) ∧ w.cell? ⟨g, 5, none⟩ = some (.string t.b.text)) ∧
  (w.cell? ⟨g, 6, none⟩ = some (.int .u32 (t.c.seq.toNat : Int)) ∧ w.cell? ⟨g, 7, none⟩ = some (.int .u8 (t.c.code : Int)) ∧ w.cell? ⟨g, 8, none⟩ = some (.string t.c.text)) ∧
  (w.cell? ⟨g, 9, none⟩ = some (.int .u32 (t.d.seq.toNat : Int)) ∧ w.cell? ⟨g, 10, none⟩ = some (.int .u8 (t.d.code : Int)) ∧ w.cell? ⟨g, 11, none⟩ = some (.string t.d.text)) :=
 ⟨⟨cell_of_row _ _ _ _ _ _ h, cell_of_row _ _ _ _ _ _ h, cell_of_row _ _ _ _ _ _ h⟩, ⟨cell_of_row _ _ _ _ _ _ h, cell_of_row _ _ _ _ _ _ h, cell_of_row _ _ _ _ _ _ h⟩, ⟨cell_of_row _ _ _ _ _ _ h, cell_of_row _ _ _ _ _ _ h, cell_of_row _ _ _ _ _ _ h⟩, ⟨cell_of_row _ _ _ _ _ _ h, cell_of_row _ _ _ _ _ _ h, cell_of_row _ _ _ _ _ _ h⟩⟩
theorem TabAt.thawed {w : World} {g : Nat} {t : TabV} (h : TabAt w g t) (j : Nat) : w.frozen? ⟨g, j, none⟩ = false := by
 unfold TabAt at h
 simp [World.frozen?, h]
theorem TabAt.other {w : World} {g g' i : Nat} {t : TabV} {x : Value} (h : TabAt w g t) (hne : g ≠ g') : TabAt (w.setCell ⟨g', i, none⟩ x) g t := (Below.heap_setCell _ _ _ _ (by exact hne)).trans h
def lastSt (y : World) (g n : Nat) (x : LastV) : World := ((y.setCell ⟨g, n * 3, none⟩ (.int .u32 (x.seq.toNat : Int))).setCell ⟨g, n * 3 + 1, none⟩ (.int .u8 (x.code : Int))).setCell ⟨g, n * 3 + 2, none⟩ (.string x.text)
theorem lastSt_at {y : World} {g n : Nat} {t : TabV} (h : TabAt y g t) (hn : n < 4) (x : LastV) : TabAt (lastSt y g n x) g (t.put n x) := by
 have h1 : n = 0 ∨ n = 1 ∨ n = 2 ∨ n = 3 := by omega
 unfold lastSt TabAt at *
 rcases h1 with rfl | rfl | rfl | rfl <;>
 ·
  rw [heap_setCell_same _ _ _ _ _ _ (heap_setCell_same _ _ _ _ _ _ (heap_setCell_same _ _ _ _ _ _ h))]
  rfl
def rowSt (y : World) (g : Nat) : Nat → List Value → World
 | _, [] => y
 | i, v :: r => rowSt (y.setCell ⟨g, i, none⟩ v) g (i + 1) r
theorem tab_eta (t : TabV) : (tabCells t).toArray = #[.int .u32 (t.a.seq.toNat : Int), .int .u8 (t.a.code : Int), .string t.a.text, .int .u32 (t.b.seq.toNat : Int), .int .u8 (t.b.code : Int), .string t.b.text, .int .u32 (t.c.seq.toNat : Int), .int .u8 (t.c.code : Int), .string t.c.text, .int .u32 (t.d.seq.toNat : Int), .int .u8 (t.d.code : Int), .string t.d.text] := rfl
theorem rowSt_row {g : Nat} {t : TypeId} : ∀ (vs pre old : List Value) (y : World), y.heap[g]? = some (.cells (pre ++ old).toArray t (0, 0)) → old.length = vs.length → (rowSt y g pre.length vs).heap[g]? = some (.cells (pre ++ vs).toArray t (0, 0))
 | [], pre, old, y, h, hl => by
  have : old = [] := List.length_eq_zero_iff.1 hl
  subst this
  exact h
 | v :: r, pre, old, y, h, hl => by
  match old, hl with
  | o :: os, hl =>
   have h1 : (y.setCell ⟨g, pre.length, none⟩ v).heap[g]? = some (.cells ((pre ++ [v]) ++ os).toArray t (0, 0)) := by
    rw [heap_setCell_same _ _ _ _ _ _ h]
    simp
   have h2 := rowSt_row r (pre ++ [v]) os _ h1 (by simpa using hl)
   rw [List.length_append] at h2
   simp only [List.append_assoc, List.singleton_append] at h2
   exact h2
theorem rowSt_below {g n : Nat} {w0 : World} (hn : n ≤ g) : ∀ (vs : List Value) (i : Nat) (y : World), Below n w0 y → Below n w0 (rowSt y g i vs)
 | [], _, _, h => h
 | _ :: r, i, _, h => rowSt_below hn r (i + 1) _ (below_setV h hn)
theorem rowSt_other {g q : Nat} (hq : q ≠ g) : ∀ (vs : List Value) (i : Nat) (y : World), (rowSt y g i vs).heap[q]? = y.heap[q]?
 | [], _, _ => rfl
 | _ :: r, i, _ => (rowSt_other hq r (i + 1) _).trans (Below.heap_setCell _ _ _ _ (by exact hq))
theorem tabSt_at {y : World} {g : Nat} {t0 : TabV} (h : TabAt y g t0) (t : TabV) : TabAt (rowSt y g 0 (tabCells t)) g t :=
 rowSt_row (tabCells t) [] (tabCells t0) y h rfl
set_option maxRecDepth 100000 in
set_option maxHeartbeats 8000000 in
theorem keep_any (t : TabV) (cl : Nat) (x : LastV) (hcl : cl < 4) (hlt : (t.at_ cl).seq.toNat < x.seq.toNat) (w : World) :
  Calls Tryz.prog 81 #[.agg (tabCells t).toArray, .int .u8 (cl : Int), .int .u32 (x.seq.toNat : Int), repV x.code x.text] w fun e w' => e = .returned (.agg (tabCells (t.put cl x)).toArray) ∧ Below w.heap.size w w' := by
 have hT0 : TabAt (w.alloc (.cells (tabCells t).toArray 31)) w.heap.size t := heap_alloc_new w _
 have hb1 := (Below.refl w.heap.size w).alloc (Nat.le_refl _) (.cells (tabCells t).toArray 31)
 have hs1 : (w.alloc (.cells (tabCells t).toArray 31)).heap.size = w.heap.size + 1 := by simp
 have hR0 : RepAt ((w.alloc (.cells (tabCells t).toArray 31)).alloc (.cells (repCells x.code x.text).toArray 27)) (w.heap.size + 1) x.code x.text := by rw [← hs1]; exact heap_alloc_new _ _
 have hT1 := hT0.below ((Below.refl _ _).alloc (Nat.le_refl _) (.cells (repCells x.code x.text).toArray 27))
 have hb2 := hb1.alloc hb1.size (.cells (repCells x.code x.text).toArray 27)
 have hs2 : ((w.alloc (.cells (tabCells t).toArray 31)).alloc (.cells (repCells x.code x.text).toArray 27)).heap.size = w.heap.size + 2 := by simp
 have hb3 := (Below.refl w.heap.size ((w.alloc (.cells (tabCells t).toArray 31)).alloc (.cells (repCells x.code x.text).toArray 27))).alloc (by rw [hs2]; omega) (.cells (tabCells tabNone).toArray 31)
 have hall := (Below.refl _ _).alloc (Nat.le_refl ((w.alloc (.cells (tabCells t).toArray 31)).alloc (.cells (repCells x.code x.text).toArray 27)).heap.size) (.cells (tabCells tabNone).toArray 31)
 have hZ : TabAt (((w.alloc (.cells (tabCells t).toArray 31)).alloc (.cells (repCells x.code x.text).toArray 27)).alloc (.cells (tabCells tabNone).toArray 31)) (w.heap.size + 2) tabNone := by rw [← hs2]; exact heap_alloc_new _ _
 have hT2 := hT1.below hall
 have hR2 := hR0.below hall
 have hb4 := hb2.trans hb3
 clear hT0 hb1 hs1 hR0 hT1 hb2 hs2 hb3 hall
 have hl : lookT t cl x.seq = (1, 0, ByteArray.empty) := by unfold lookT; rw [if_pos hlt]
 have hlk2 := fun y : World => look_any t cl x.seq hcl (by omega) y
 rw [hl, tab_eta] at hlk2
 unfold repV repCells at hlk2
 have Hlk := Lib.hid hlk2; clear hlk2 hl
 obtain ⟨t', ht'⟩ : ∃ t', t.put cl x = t' := ⟨_, rfl⟩
 rw [ht']
 have Ht := Lib.hid ht'; clear ht'
 obtain ⟨sq, hsq⟩ : ∃ n : Int, (x.seq.toNat : Int) = n := ⟨_, rfl⟩
 show Calls _ _ #[.agg (tabCells t).toArray, .int .u8 (cl : Int), .int .u32 (x.seq.toNat : Int), .agg (repCells x.code x.text).toArray] w _
 rw [hsq] at Hlk ⊢
 have Hsq := Lib.hid hsq; clear hsq
 go_enter Tryz.func81, Tryz.ntmps81
 go_upto_region 1 with fail
 rw [show w.heap.size + 1 + 1 = w.heap.size + 2 by omega]
 change Code.wp _ _ _ _ (((w.alloc (.cells (tabCells t).toArray 31)).alloc (.cells (repCells x.code x.text).toArray 27)).alloc (.cells (tabCells tabNone).toArray 31))
 generalize ((w.alloc (.cells (tabCells t).toArray 31)).alloc (.cells (repCells x.code x.text).toArray 27)).alloc (.cells (tabCells tabNone).toArray 31) = w1 at *
 have HT := Lib.hid hT2; clear hT2
 have HR := Lib.hid hR2; clear hR2
 have HZ := Lib.hid hZ; clear hZ
 have Hb := Lib.hid hb4; clear hb4
 obtain ⟨⟨a0, a1, a2⟩, ⟨b0, b1, b2⟩, ⟨c0, c1, c2⟩, ⟨d0, d1, d2⟩⟩ := HT.out.cells
 go_upto_region 3 with ((with_reducible refine (Hlk.out _).mono ?_); rintro e w2 ⟨rfl, hb⟩; have Hb2 := Lib.hid hb; clear hb)
 have hb3 := (Below.refl w2.heap.size w2).alloc (Nat.le_refl _) (.cells (repCells 0 ByteArray.empty).toArray 27)
 have hb13 := Hb2.out.trans (hb3.mono Hb2.out.size)
 have HT3 := Lib.hid (HT.out.below hb13)
 have HR3 := Lib.hid (HR.out.below hb13)
 have HZ3 := Lib.hid (HZ.out.below hb13)
 have Hb3 := Lib.hid (Hb.out.trans (hb13.mono Hb.out.size))
 change Code.wp _ _ _ _ (w2.alloc (.cells (repCells 0 ByteArray.empty).toArray 27))
 generalize w2.alloc (.cells (repCells 0 ByteArray.empty).toArray 27) = w3 at *
 clear a0 a1 a2 b0 b1 b2 c0 c1 c2 d0 d1 d2 hb3 hb13 HT HR HZ Hb Hlk Hb2
 obtain ⟨c0, c1, c2⟩ := HT3.out.at3 hcl
 have f0 := HT3.out.thawed (cl * 3)
 have f1 := HT3.out.thawed (cl * 3 + 1)
 have f2 := HT3.out.thawed (cl * 3 + 2)
 obtain ⟨r0, r1⟩ := HR3.out.cells
 have hcl2 : (cl : Int) < 4 := by omega
 have HT4 := Lib.hid (lastSt_at HT3.out hcl x)
 have HZ4 := Lib.hid (show TabAt (lastSt w3 w.heap.size cl x) (w.heap.size + 2) tabNone from ((HZ3.out.other (by omega)).other (by omega)).other (by omega))
 have Hb4 := Lib.hid (show Below w.heap.size w (lastSt w3 w.heap.size cl x) from below_setV (below_setV (below_setV Hb3.out (Nat.le_refl _)) (Nat.le_refl _)) (Nat.le_refl _))
 go_upto_region 4 with fail
 rw [← Hsq.out]
 change Code.wp _ _ _ _ (lastSt w3 w.heap.size cl x)
 generalize lastSt w3 w.heap.size cl x = w4 at *
 clear c0 c1 c2 f0 f1 f2 r0 r1 HT3 HR3 HZ3 Hb3
 rw [Ht.out] at HT4
 obtain ⟨⟨a0, a1, a2⟩, ⟨b0, b1, b2⟩, ⟨c0, c1, c2⟩, ⟨d0, d1, d2⟩⟩ := HT4.out.cells
 obtain ⟨⟨z0, z1, z2⟩, ⟨z3, z4, z5⟩, ⟨z6, z7, z8⟩, ⟨z9, z10, z11⟩⟩ := HZ4.out.cells
 have g0 := HZ4.out.thawed 0
 have g1 := HZ4.out.thawed 1
 have g2 := HZ4.out.thawed 2
 have g3 := HZ4.out.thawed 3
 have g4 := HZ4.out.thawed 4
 have g5 := HZ4.out.thawed 5
 have g6 := HZ4.out.thawed 6
 have g7 := HZ4.out.thawed 7
 have g8 := HZ4.out.thawed 8
 have g9 := HZ4.out.thawed 9
 have g10 := HZ4.out.thawed 10
 have g11 := HZ4.out.thawed 11
 have HT5 := Lib.hid (tabSt_at HZ4.out t')
 have Hb5 := Lib.hid (rowSt_below (g := w.heap.size + 2) (by omega) (tabCells t') 0 _ Hb4.out)
 go_wp2_with fail
 change bodyPost _ _ _ _ _ (rowSt w4 (w.heap.size + 2) 0 (tabCells t'))
 clear a0 a1 a2 b0 b1 b2 c0 c1 c2 d0 d1 d2 z0 z1 z2 z3 z4 z5 z6 z7 z8 z9 z10 z11 g0 g1 g2 g3 g4 g5 g6 g7 g8 g9 g10 g11
 generalize rowSt w4 (w.heap.size + 2) 0 (tabCells t') = w5 at *
 obtain ⟨⟨a0, a1, a2⟩, ⟨b0, b1, b2⟩, ⟨c0, c1, c2⟩, ⟨d0, d1, d2⟩⟩ := HT5.out.cells
 refine bodyPost_ret (v := .agg (tabCells t').toArray) (by rw [tab_eta]; simp [results, Tryz.results81, go_sem, a0, a1, a2, b0, b1, b2, c0, c1, c2, d0, d1, d2] <;> rfl) rfl ?_
 exact ⟨rfl, Hb5.out⟩
end Go.Proofs.YtbckjgageofldaaGreat
