/- Sessions: a table's cells; Look, Keep. Condition: the client is one of four, the number is not 0. -/
import Derived.Test.YtkngadbeflepoaaZDeltaLeads13
namespace Go.Proofs.Ytkngadbeflepoaa
open Go.RowKit
def lastCells (l : LastV) : List Value := [.int .u32 (l.seq.toNat : Int), .int .u8 (l.code : Int), .string l.text]
def tabCells (t : TabV) : List Value := lastCells t.a ++ lastCells t.b ++ lastCells t.c ++ lastCells t.d
def TabAt (w : World) (g : Nat) (t : TabV) : Prop := w.heap[g]? = some (.cells (tabCells t).toArray 65 (0, 0))
theorem TabAt.lt {w : World} {g : Nat} {t : TabV} (h : TabAt w g t) : g < w.heap.size := (Array.getElem?_eq_some_iff.1 h).1
theorem TabAt.below {w w' : World} {g : Nat} {t : TabV} (h : TabAt w g t) (hb : Below w.heap.size w w') : TabAt w' g t := (hb.block g h.lt).trans h
/-- The world behind a reply's store. -/
def repSt (y : World) (g : Nat) (code : Nat) (text : ByteArray) : World := (y.setCell ⟨g, 0, none⟩ (.int .u8 (code : Int))).setCell ⟨g, 1, none⟩ (.string text)
theorem repSt_at {y : World} {g c0 : Nat} {t0 : ByteArray} (h : RepAt y g c0 t0) (code : Nat) (text : ByteArray) : RepAt (repSt y g code text) g code text := (RepAt.set (h.set (code' := code) (text' := t0) rfl) rfl)
theorem repSt_below {y w0 : World} {g n : Nat} (hb : Below n w0 y) (hn : n ≤ g) (code : Nat) (text : ByteArray) : Below n w0 (repSt y g code text) := below_setV (below_setV hb hn) hn
theorem TabAt.at3 {w : World} {g : Nat} {t : TabV} (h : TabAt w g t) {n : Nat} (hn : n < 4) : w.cell? ⟨g, n * 3, none⟩ = some (.int .u32 ((t.at_ n).seq.toNat : Int)) ∧ w.cell? ⟨g, n * 3 + 1, none⟩ = some (.int .u8 ((t.at_ n).code : Int)) ∧ w.cell? ⟨g, n * 3 + 2, none⟩ = some (.string (t.at_ n).text) := by
  have h1 : n = 0 ∨ n = 1 ∨ n = 2 ∨ n = 3 := by omega
  rcases h1 with rfl | rfl | rfl | rfl <;> exact ⟨cell_of_row _ _ _ _ _ _ h, cell_of_row _ _ _ _ _ _ h, cell_of_row _ _ _ _ _ _ h⟩
set_option maxRecDepth 100000 in
set_option maxHeartbeats 4000000 in
theorem look_any (t : TabV) (cl : Nat) (seq : BitVec 32) (hcl : cl < 4) (hseq : seq.toNat ≠ 0) (w : World) :
    Calls Try.prog 61 #[.agg (tabCells t).toArray, .int .u8 (cl : Int), .int .u32 (seq.toNat : Int)] w fun e w' => e = .returned (.tuple #[repV (lookT t cl seq).2.1 (lookT t cl seq).2.2, .int .u8 ((lookT t cl seq).1 : Int)]) ∧ Below w.heap.size w w' := by
  have hT0 : TabAt (w.alloc (.cells (tabCells t).toArray 65)) w.heap.size t := heap_alloc_new w _
  have hb1 := (Below.refl w.heap.size w).alloc (Nat.le_refl _) (.cells (tabCells t).toArray 65)
  have hs1 : (w.alloc (.cells (tabCells t).toArray 65)).heap.size = w.heap.size + 1 := by simp
  have hT := hT0.below ((Below.refl _ _).alloc (Nat.le_refl _) (.cells (repCells 0 ByteArray.empty).toArray 51))
  have hR : RepAt ((w.alloc (.cells (tabCells t).toArray 65)).alloc (.cells (repCells 0 ByteArray.empty).toArray 51)) (w.heap.size + 1) 0 ByteArray.empty := by rw [← hs1]; exact heap_alloc_new _ _
  have hb2 := hb1.alloc hb1.size (.cells (repCells 0 ByteArray.empty).toArray 51)
  have hcl' : ¬ (4 : Int) ≤ (cl : Int) := by omega
  have hcl2 : (cl : Int) < 4 := by omega
  have hs' : ((seq.toNat : Int) == 0) = false := by simp; exact hseq
  clear hT0 hb1 hs1
  obtain ⟨⟨wh, co, te⟩, ho⟩ : ∃ o, lookT t cl seq = o := ⟨_, rfl⟩
  rw [ho]
  have HO := Lib.hid ho; clear ho
  unfold lookT at HO
  go_enter Try.func61, Try.ntmps61
  go_upto_region 3 with fail
  change Code.wp _ _ _ _ ((w.alloc (.cells (tabCells t).toArray 65)).alloc (.cells (repCells 0 ByteArray.empty).toArray 51))
  generalize (w.alloc (.cells (tabCells t).toArray 65)).alloc (.cells (repCells 0 ByteArray.empty).toArray 51) = w1 at *
  obtain ⟨c0, c1, c2⟩ := hT.at3 hcl
  generalize t.at_ cl = l at *
  have HR := Lib.hid hR; clear hR
  have Hb := Lib.hid hb2; clear hb2
  have HT := Lib.hid hT; clear hT
  go_upto_region 4 with fail
  have hL : (w1.alloc (.cells (lastCells l).toArray 63)).heap[w1.heap.size]? = some (.cells (lastCells l).toArray 63 (0, 0)) := heap_alloc_new _ _
  have hb3 := (Below.refl w1.heap.size w1).alloc (Nat.le_refl _) (.cells (lastCells l).toArray 63)
  have HR2 := Lib.hid (HR.out.below hb3)
  have Hb2 := Lib.hid (Hb.out.trans (hb3.mono Hb.out.size))
  change Code.wp _ _ _ _ (w1.alloc (.cells (lastCells l).toArray 63))
  generalize w1.alloc (.cells (lastCells l).toArray 63) = w2 at *
  have l0 : w2.cell? ⟨w1.heap.size, 0, none⟩ = some (.int .u32 (l.seq.toNat : Int)) := cell_of_row _ _ _ _ _ _ hL
  have l1 : w2.cell? ⟨w1.heap.size, 1, none⟩ = some (.int .u8 (l.code : Int)) := cell_of_row _ _ _ _ _ _ hL
  have l2 : w2.cell? ⟨w1.heap.size, 2, none⟩ = some (.string l.text) := cell_of_row _ _ _ _ _ _ hL
  clear hL hb3 HR Hb c0 c1 c2
  by_cases hlt : l.seq.toNat < seq.toNat
  · have hlt' : (l.seq.toNat : Int) < (seq.toNat : Int) := by omega
    have hoe := HO.out
    rw [if_pos hlt] at hoe
    simp only [Prod.mk.injEq] at hoe
    obtain ⟨rfl, rfl, rfl⟩ := hoe
    clear HO hlt
    obtain ⟨r0, r1⟩ := HR2.out.cells
    have r2 := HR2.out.thawed 0
    have r3 := HR2.out.thawed 1
    have h3 := repSt_at HR2.out 0 ByteArray.empty
    have hb3 := repSt_below Hb2.out (Nat.le_succ _) 0 ByteArray.empty
    have H3 := Lib.hid (And.intro h3 hb3); clear h3 hb3
    go_wp2_with fail
    change bodyPost _ _ _ _ _ (repSt w2 (w.heap.size + 1) 0 ByteArray.empty)
    clear r0 r1 r2 r3
    obtain ⟨r0, r1⟩ := H3.out.1.cells
    generalize repSt w2 (w.heap.size + 1) 0 ByteArray.empty = w3 at *
    refine bodyPost_ret (v := .tuple #[.agg #[.int .u8 (0 : Nat), .string ByteArray.empty], .int .u8 1]) (by simp [results, Try.results61, go_sem, r0, r1] <;> rfl) rfl ?_
    exact ⟨rfl, H3.out.2⟩
  · have hlt' : ¬ (l.seq.toNat : Int) < (seq.toNat : Int) := by omega
    have hoe := HO.out
    rw [if_neg hlt] at hoe
    by_cases heq : seq.toNat = l.seq.toNat
    · have heq' : ((seq.toNat : Int) == (l.seq.toNat : Int)) = true := by simp; omega
      rw [if_pos heq] at hoe
      simp only [Prod.mk.injEq] at hoe
      obtain ⟨rfl, rfl, rfl⟩ := hoe
      clear HO hlt heq
      obtain ⟨r0, r1⟩ := HR2.out.cells
      have r2 := HR2.out.thawed 0
      have r3 := HR2.out.thawed 1
      have h3 := repSt_at HR2.out l.code l.text
      have hb3 := repSt_below Hb2.out (Nat.le_succ _) l.code l.text
      have H3 := Lib.hid (And.intro h3 hb3); clear h3 hb3
      go_wp2_with fail
      change bodyPost _ _ _ _ _ (repSt w2 (w.heap.size + 1) l.code l.text)
      clear r0 r1 r2 r3
      obtain ⟨r0, r1⟩ := H3.out.1.cells
      generalize repSt w2 (w.heap.size + 1) l.code l.text = w3 at *
      refine bodyPost_ret (v := .tuple #[.agg #[.int .u8 (l.code : Nat), .string l.text], .int .u8 2]) (by simp [results, Try.results61, go_sem, r0, r1] <;> rfl) rfl ?_
      exact ⟨rfl, H3.out.2⟩
    · have heq' : ((seq.toNat : Int) == (l.seq.toNat : Int)) = false := by simp; omega
      rw [if_neg heq] at hoe
      simp only [Prod.mk.injEq] at hoe
      obtain ⟨rfl, rfl, rfl⟩ := hoe
      clear HO hlt heq
      obtain ⟨r0, r1⟩ := HR2.out.cells
      have r2 := HR2.out.thawed 0
      have r3 := HR2.out.thawed 1
      have h3 := repSt_at HR2.out 3 ByteArray.empty
      have hb3 := repSt_below Hb2.out (Nat.le_succ _) 3 ByteArray.empty
      have H3 := Lib.hid (And.intro h3 hb3); clear h3 hb3
      go_wp2_with fail
      change bodyPost _ _ _ _ _ (repSt w2 (w.heap.size + 1) 3 ByteArray.empty)
      clear r0 r1 r2 r3
      obtain ⟨r0, r1⟩ := H3.out.1.cells
      generalize repSt w2 (w.heap.size + 1) 3 ByteArray.empty = w3 at *
      refine bodyPost_ret (v := .tuple #[.agg #[.int .u8 (3 : Nat), .string ByteArray.empty], .int .u8 3]) (by simp [results, Try.results61, go_sem, r0, r1] <;> rfl) rfl ?_
      exact ⟨rfl, H3.out.2⟩
end Go.Proofs.Ytkngadbeflepoaa
namespace Go.Proofs.Ytkngadbeflepoaa
open Go.RowKit
def tabNone : TabV := ⟨lastNone, lastNone, lastNone, lastNone⟩
theorem TabAt.cells {w : World} {g : Nat} {t : TabV} (h : TabAt w g t) :
    (w.cell? ⟨g, 0, none⟩ = some (.int .u32 (t.a.seq.toNat : Int)) ∧ w.cell? ⟨g, 1, none⟩ = some (.int .u8 (t.a.code : Int)) ∧ w.cell? ⟨g, 2, none⟩ = some (.string t.a.text)) ∧
    (w.cell? ⟨g, 3, none⟩ = some (.int .u32 (t.b.seq.toNat : Int)) ∧ w.cell? ⟨g, 4, none⟩ = some (.int .u8 (t.b.code : Int)) ∧ w.cell? ⟨g, 5, none⟩ = some (.string t.b.text)) ∧
    (w.cell? ⟨g, 6, none⟩ = some (.int .u32 (t.c.seq.toNat : Int)) ∧ w.cell? ⟨g, 7, none⟩ = some (.int .u8 (t.c.code : Int)) ∧ w.cell? ⟨g, 8, none⟩ = some (.string t.c.text)) ∧
    (w.cell? ⟨g, 9, none⟩ = some (.int .u32 (t.d.seq.toNat : Int)) ∧ w.cell? ⟨g, 10, none⟩ = some (.int .u8 (t.d.code : Int)) ∧ w.cell? ⟨g, 11, none⟩ = some (.string t.d.text)) :=
  ⟨⟨cell_of_row _ _ _ _ _ _ h, cell_of_row _ _ _ _ _ _ h, cell_of_row _ _ _ _ _ _ h⟩, ⟨cell_of_row _ _ _ _ _ _ h, cell_of_row _ _ _ _ _ _ h, cell_of_row _ _ _ _ _ _ h⟩, ⟨cell_of_row _ _ _ _ _ _ h, cell_of_row _ _ _ _ _ _ h, cell_of_row _ _ _ _ _ _ h⟩, ⟨cell_of_row _ _ _ _ _ _ h, cell_of_row _ _ _ _ _ _ h, cell_of_row _ _ _ _ _ _ h⟩⟩
theorem TabAt.thawed {w : World} {g : Nat} {t : TabV} (h : TabAt w g t) (j : Nat) : w.frozen? ⟨g, j, none⟩ = false := by
  unfold TabAt at h
  simp [World.frozen?, h]
theorem TabAt.other {w : World} {g g' i : Nat} {t : TabV} {x : Value} (h : TabAt w g t) (hne : g ≠ g') : TabAt (w.setCell ⟨g', i, none⟩ x) g t := (Below.heap_setCell _ _ _ _ (by exact hne)).trans h
/-- The world behind the store of a client's last. -/
def lastSt (y : World) (g n : Nat) (x : LastV) : World := ((y.setCell ⟨g, n * 3, none⟩ (.int .u32 (x.seq.toNat : Int))).setCell ⟨g, n * 3 + 1, none⟩ (.int .u8 (x.code : Int))).setCell ⟨g, n * 3 + 2, none⟩ (.string x.text)
theorem lastSt_at {y : World} {g n : Nat} {t : TabV} (h : TabAt y g t) (hn : n < 4) (x : LastV) : TabAt (lastSt y g n x) g (t.put n x) := by
  have h1 : n = 0 ∨ n = 1 ∨ n = 2 ∨ n = 3 := by omega
  unfold lastSt TabAt at *
  rcases h1 with rfl | rfl | rfl | rfl <;>
  · rw [heap_setCell_same _ _ _ _ _ _ (heap_setCell_same _ _ _ _ _ _ (heap_setCell_same _ _ _ _ _ _ h))]
    rfl
/-- The world behind the store of a row of values, cell by cell. -/
def rowSt (y : World) (g : Nat) : Nat → List Value → World
  | _, [] => y
  | i, v :: r => rowSt (y.setCell ⟨g, i, none⟩ v) g (i + 1) r
theorem tab_eta (t : TabV) : (tabCells t).toArray = #[.int .u32 (t.a.seq.toNat : Int), .int .u8 (t.a.code : Int), .string t.a.text, .int .u32 (t.b.seq.toNat : Int), .int .u8 (t.b.code : Int), .string t.b.text, .int .u32 (t.c.seq.toNat : Int), .int .u8 (t.c.code : Int), .string t.c.text, .int .u32 (t.d.seq.toNat : Int), .int .u8 (t.d.code : Int), .string t.d.text] := rfl
theorem rowSt_row {g : Nat} {t : TypeId} : ∀ (vs pre old : List Value) (y : World), y.heap[g]? = some (.cells (pre ++ old).toArray t (0, 0)) → old.length = vs.length → (rowSt y g pre.length vs).heap[g]? = some (.cells (pre ++ vs).toArray t (0, 0))
  | [], pre, old, y, h, hl => by
    have : old = [] := List.length_eq_zero_iff.1 hl
    subst this
    exact h
  | v :: r, pre, old, y, h, hl => by
    match old, hl with
    | o :: os, hl =>
      have h1 : (y.setCell ⟨g, pre.length, none⟩ v).heap[g]? = some (.cells ((pre ++ [v]) ++ os).toArray t (0, 0)) := by
        rw [heap_setCell_same _ _ _ _ _ _ h]
        simp
      have h2 := rowSt_row r (pre ++ [v]) os _ h1 (by simpa using hl)
      rw [List.length_append] at h2
      simp only [List.append_assoc, List.singleton_append] at h2
      exact h2
theorem rowSt_below {g n : Nat} {w0 : World} (hn : n ≤ g) : ∀ (vs : List Value) (i : Nat) (y : World), Below n w0 y → Below n w0 (rowSt y g i vs)
  | [], _, _, h => h
  | _ :: r, i, _, h => rowSt_below hn r (i + 1) _ (below_setV h hn)
theorem rowSt_other {g q : Nat} (hq : q ≠ g) : ∀ (vs : List Value) (i : Nat) (y : World), (rowSt y g i vs).heap[q]? = y.heap[q]?
  | [], _, _ => rfl
  | _ :: r, i, _ => (rowSt_other hq r (i + 1) _).trans (Below.heap_setCell _ _ _ _ (by exact hq))
theorem tabSt_at {y : World} {g : Nat} {t0 : TabV} (h : TabAt y g t0) (t : TabV) : TabAt (rowSt y g 0 (tabCells t)) g t :=
  rowSt_row (tabCells t) [] (tabCells t0) y h rfl
set_option maxRecDepth 100000 in
set_option maxHeartbeats 8000000 in
theorem keep_any (t : TabV) (cl : Nat) (x : LastV) (hcl : cl < 4) (hlt : (t.at_ cl).seq.toNat < x.seq.toNat) (w : World) :
    Calls Try.prog 62 #[.agg (tabCells t).toArray, .int .u8 (cl : Int), .int .u32 (x.seq.toNat : Int), repV x.code x.text] w fun e w' => e = .returned (.agg (tabCells (t.put cl x)).toArray) ∧ Below w.heap.size w w' := by
  have hT0 : TabAt (w.alloc (.cells (tabCells t).toArray 65)) w.heap.size t := heap_alloc_new w _
  have hb1 := (Below.refl w.heap.size w).alloc (Nat.le_refl _) (.cells (tabCells t).toArray 65)
  have hs1 : (w.alloc (.cells (tabCells t).toArray 65)).heap.size = w.heap.size + 1 := by simp
  have hR0 : RepAt ((w.alloc (.cells (tabCells t).toArray 65)).alloc (.cells (repCells x.code x.text).toArray 51)) (w.heap.size + 1) x.code x.text := by rw [← hs1]; exact heap_alloc_new _ _
  have hT1 := hT0.below ((Below.refl _ _).alloc (Nat.le_refl _) (.cells (repCells x.code x.text).toArray 51))
  have hb2 := hb1.alloc hb1.size (.cells (repCells x.code x.text).toArray 51)
  have hs2 : ((w.alloc (.cells (tabCells t).toArray 65)).alloc (.cells (repCells x.code x.text).toArray 51)).heap.size = w.heap.size + 2 := by simp
  have hb3 := (Below.refl w.heap.size ((w.alloc (.cells (tabCells t).toArray 65)).alloc (.cells (repCells x.code x.text).toArray 51))).alloc (by rw [hs2]; omega) (.cells (tabCells tabNone).toArray 65)
  have hall := (Below.refl _ _).alloc (Nat.le_refl ((w.alloc (.cells (tabCells t).toArray 65)).alloc (.cells (repCells x.code x.text).toArray 51)).heap.size) (.cells (tabCells tabNone).toArray 65)
  have hZ : TabAt (((w.alloc (.cells (tabCells t).toArray 65)).alloc (.cells (repCells x.code x.text).toArray 51)).alloc (.cells (tabCells tabNone).toArray 65)) (w.heap.size + 2) tabNone := by rw [← hs2]; exact heap_alloc_new _ _
  have hT2 := hT1.below hall
  have hR2 := hR0.below hall
  have hb4 := hb2.trans hb3
  clear hT0 hb1 hs1 hR0 hT1 hb2 hs2 hb3 hall
  have hl : lookT t cl x.seq = (1, 0, ByteArray.empty) := by unfold lookT; rw [if_pos hlt]
  have hlk2 := fun y : World => look_any t cl x.seq hcl (by omega) y
  rw [hl, tab_eta] at hlk2
  unfold repV repCells at hlk2
  have Hlk := Lib.hid hlk2; clear hlk2 hl
  obtain ⟨t', ht'⟩ : ∃ t', t.put cl x = t' := ⟨_, rfl⟩
  rw [ht']
  have Ht := Lib.hid ht'; clear ht'
  obtain ⟨sq, hsq⟩ : ∃ n : Int, (x.seq.toNat : Int) = n := ⟨_, rfl⟩
  show Calls _ _ #[.agg (tabCells t).toArray, .int .u8 (cl : Int), .int .u32 (x.seq.toNat : Int), .agg (repCells x.code x.text).toArray] w _
  rw [hsq] at Hlk ⊢
  have Hsq := Lib.hid hsq; clear hsq
  go_enter Try.func62, Try.ntmps62
  go_upto_region 1 with fail
  rw [show w.heap.size + 1 + 1 = w.heap.size + 2 by omega]
  change Code.wp _ _ _ _ (((w.alloc (.cells (tabCells t).toArray 65)).alloc (.cells (repCells x.code x.text).toArray 51)).alloc (.cells (tabCells tabNone).toArray 65))
  generalize ((w.alloc (.cells (tabCells t).toArray 65)).alloc (.cells (repCells x.code x.text).toArray 51)).alloc (.cells (tabCells tabNone).toArray 65) = w1 at *
  have HT := Lib.hid hT2; clear hT2
  have HR := Lib.hid hR2; clear hR2
  have HZ := Lib.hid hZ; clear hZ
  have Hb := Lib.hid hb4; clear hb4
  obtain ⟨⟨a0, a1, a2⟩, ⟨b0, b1, b2⟩, ⟨c0, c1, c2⟩, ⟨d0, d1, d2⟩⟩ := HT.out.cells
  go_upto_region 3 with ((with_reducible refine (Hlk.out _).mono ?_); rintro e w2 ⟨rfl, hb⟩; have Hb2 := Lib.hid hb; clear hb)
  have hb3 := (Below.refl w2.heap.size w2).alloc (Nat.le_refl _) (.cells (repCells 0 ByteArray.empty).toArray 51)
  have hb13 := Hb2.out.trans (hb3.mono Hb2.out.size)
  have HT3 := Lib.hid (HT.out.below hb13)
  have HR3 := Lib.hid (HR.out.below hb13)
  have HZ3 := Lib.hid (HZ.out.below hb13)
  have Hb3 := Lib.hid (Hb.out.trans (hb13.mono Hb.out.size))
  change Code.wp _ _ _ _ (w2.alloc (.cells (repCells 0 ByteArray.empty).toArray 51))
  generalize w2.alloc (.cells (repCells 0 ByteArray.empty).toArray 51) = w3 at *
  clear a0 a1 a2 b0 b1 b2 c0 c1 c2 d0 d1 d2 hb3 hb13 HT HR HZ Hb Hlk Hb2
  obtain ⟨c0, c1, c2⟩ := HT3.out.at3 hcl
  have f0 := HT3.out.thawed (cl * 3)
  have f1 := HT3.out.thawed (cl * 3 + 1)
  have f2 := HT3.out.thawed (cl * 3 + 2)
  obtain ⟨r0, r1⟩ := HR3.out.cells
  have hcl2 : (cl : Int) < 4 := by omega
  have HT4 := Lib.hid (lastSt_at HT3.out hcl x)
  have HZ4 := Lib.hid (show TabAt (lastSt w3 w.heap.size cl x) (w.heap.size + 2) tabNone from ((HZ3.out.other (by omega)).other (by omega)).other (by omega))
  have Hb4 := Lib.hid (show Below w.heap.size w (lastSt w3 w.heap.size cl x) from below_setV (below_setV (below_setV Hb3.out (Nat.le_refl _)) (Nat.le_refl _)) (Nat.le_refl _))
  go_upto_region 4 with fail
  rw [← Hsq.out]
  change Code.wp _ _ _ _ (lastSt w3 w.heap.size cl x)
  generalize lastSt w3 w.heap.size cl x = w4 at *
  clear c0 c1 c2 f0 f1 f2 r0 r1 HT3 HR3 HZ3 Hb3
  rw [Ht.out] at HT4
  obtain ⟨⟨a0, a1, a2⟩, ⟨b0, b1, b2⟩, ⟨c0, c1, c2⟩, ⟨d0, d1, d2⟩⟩ := HT4.out.cells
  obtain ⟨⟨z0, z1, z2⟩, ⟨z3, z4, z5⟩, ⟨z6, z7, z8⟩, ⟨z9, z10, z11⟩⟩ := HZ4.out.cells
  have g0 := HZ4.out.thawed 0
  have g1 := HZ4.out.thawed 1
  have g2 := HZ4.out.thawed 2
  have g3 := HZ4.out.thawed 3
  have g4 := HZ4.out.thawed 4
  have g5 := HZ4.out.thawed 5
  have g6 := HZ4.out.thawed 6
  have g7 := HZ4.out.thawed 7
  have g8 := HZ4.out.thawed 8
  have g9 := HZ4.out.thawed 9
  have g10 := HZ4.out.thawed 10
  have g11 := HZ4.out.thawed 11
  have HT5 := Lib.hid (tabSt_at HZ4.out t')
  have Hb5 := Lib.hid (rowSt_below (g := w.heap.size + 2) (by omega) (tabCells t') 0 _ Hb4.out)
  go_wp2_with fail
  change bodyPost _ _ _ _ _ (rowSt w4 (w.heap.size + 2) 0 (tabCells t'))
  clear a0 a1 a2 b0 b1 b2 c0 c1 c2 d0 d1 d2 z0 z1 z2 z3 z4 z5 z6 z7 z8 z9 z10 z11 g0 g1 g2 g3 g4 g5 g6 g7 g8 g9 g10 g11
  generalize rowSt w4 (w.heap.size + 2) 0 (tabCells t') = w5 at *
  obtain ⟨⟨a0, a1, a2⟩, ⟨b0, b1, b2⟩, ⟨c0, c1, c2⟩, ⟨d0, d1, d2⟩⟩ := HT5.out.cells
  refine bodyPost_ret (v := .agg (tabCells t').toArray) (by rw [tab_eta]; simp [results, Try.results62, go_sem, a0, a1, a2, b0, b1, b2, c0, c1, c2, d0, d1, d2] <;> rfl) rfl ?_
  exact ⟨rfl, Hb5.out⟩
end Go.Proofs.Ytkngadbeflepoaa
