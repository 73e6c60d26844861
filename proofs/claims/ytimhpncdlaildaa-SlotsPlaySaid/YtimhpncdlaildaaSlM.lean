/- The document's row (palaverref16): cut. Condition: the row's slots lie in items of their own; at most 1048576 of them. -/
import Derived.Test.YtimhpncdlaildaaSlK
import Derived.Test.YtimhpncdlaildaaRegR
import Derived.Maps.AppendAt
namespace Go.Proofs.Ytimhpncdlaildaa
open Go.RowKit

/-- A slice's form: none, or from an address on, within its room. -/
def SlOk (A : Option Addr) (n c : Nat) : Prop := (A = none ∧ n = 0 ∧ c = 0) ∨ ∃ b o, A = some ⟨b, o, none⟩ ∧ n ≤ c ∧ c ≤ maxLen
theorem own_ok {w : World} {base : Nat} {e : TypeId} {size : Nat} {A : Option Addr} {n c : Nat} {xs : List Value} (h : w.ownsRow base e size (.slice A n c) n xs) : SlOk A n c := by
  rcases h.2 with ⟨e1, e2⟩ | ⟨g, cap, cur, e1, h2, h3, h4, h5, _, _⟩
  · simp only [Value.slice.injEq] at e1
    exact .inl ⟨e1.1, e2, e1.2.2⟩
  · simp only [Value.slice.injEq] at e1
    exact .inr ⟨g, 0, e1.1, by rw [e1.2.2]; exact h4, by rw [e1.2.2]; exact h5⟩

/-- A row of the document's that a call has made: base, top, slots. -/
def RefPost (b t : BitVec 64) (L : Its) (w : World) (e : Ending) (w' : World) : Prop :=
  ∃ A n c, e = .returned (refV b t A n c) ∧ ItemsAt w' A n L ∧ Below w.heap.size w w' ∧ SlOk A n c

theorem infoRefRow : (Try.prog.info? 46).map (·.size) = some 3 := by kernel_rfl
theorem below_grown {w y : World} {row : Option Nat} (h : Below w.heap.size w y) : w.grownBy y row := ⟨h.os, h.tape, h.output, h.size, fun k hk _ => h.block k hk⟩
theorem filter_snoc {L : Its} {i : Nat} (q : BitVec 64 × ByteArray → Bool) (h : i < L.length) : (L.take (i + 1)).filter q = (L.take i).filter q ++ (if q (L.getD i dflt) then [L.getD i dflt] else []) := by
  rw [List.take_add_one, List.filter_append]
  congr 1
  simp [List.getD, List.getElem?_eq_getElem h]
  split <;> simp_all

/-- A row of the document's that is being built: it lies in block g5; its slots in a row of the call's own. Blocks below g5 are as they were in w0. -/
structure Build (g5 : Nat) (w0 w : World) (x t : BitVec 64) (v : Value) (k : Nat) (M : Its) : Prop where
  old : Below g5 w0 w
  lt : g5 < w.heap.size
  blk : w.heap[g5]? = some (.cells #[.int .u64 (x.toNat : Int), .int .u64 (t.toNat : Int), v] 46 (0, 0))
  own : w.ownsRow (g5 + 1) 33 2 v k (flatItems M)

section
variable {g5 : Nat} {w0 w w' : World} {x t : BitVec 64} {v v' : Value} {k : Nat} {M : Its}
theorem Build.cell {y : World} (h : Build g5 w0 w x t v k M) (hg : w.grownBy y v.ownBlock) : y.cell? ⟨g5, 2, none⟩ = some v ∧ y.frozen? ⟨g5, 2, none⟩ = false := by
  have hb : y.heap[g5]? = w.heap[g5]? := hg.block g5 h.lt (fun e => by have := h.own.lt g5 e.symm; omega)
  have hb' := hb.trans h.blk
  exact ⟨cell_of_row _ _ _ _ _ _ hb', by simp [World.frozen?, hb']⟩
theorem Build.cellOld {y : World} {b o : Nat} (h : Build g5 w0 w x t v k M) (hg : w.grownBy y v.ownBlock) (hb : b < g5) : y.cell? ⟨b, o, none⟩ = w0.cell? ⟨b, o, none⟩ := by
  have h1 : y.heap[b]? = w.heap[b]? := hg.block b (by have := h.lt; omega) (fun e => by have := h.own.lt b e.symm; omega)
  simp only [World.cell?, h1, h.old.block b hb]
theorem Build.step {p : BitVec 64 × ByteArray} (h : Build g5 w0 w x t v k M) (hg : w.grownBy w' v.ownBlock) (ho : w'.ownsRow (g5 + 1) 33 2 v' (k + 1) (flatItems M ++ itemCells p)) :
    Build g5 w0 (w'.setCell ⟨g5, 2, none⟩ v') x t v' (k + 1) (M ++ [p]) := by
  have hb : w'.heap[g5]? = w.heap[g5]? := hg.block g5 h.lt (fun e => by have := h.own.lt g5 e.symm; omega)
  have hs : (w'.setCell ⟨g5, 2, none⟩ v').heap.size = w'.heap.size := by simp [World.setCell]
  have hgr : w'.grownBy (w'.setCell ⟨g5, 2, none⟩ v') (some g5) := ⟨rfl, rfl, rfl, by rw [hs]; exact Nat.le_refl _, fun q _ hq => Below.heap_setCell _ _ _ _ (fun e => hq (by rw [e]))⟩
  refine ⟨⟨hg.os.trans h.old.os, hg.tape.trans h.old.tape, hg.output.trans h.old.output, by rw [hs]; exact Nat.le_trans h.old.size hg.size, fun q hq => ?_⟩, by rw [hs]; exact Nat.lt_of_lt_of_le h.lt hg.size, ?_, ?_⟩
  · have h1 : w'.heap[q]? = w.heap[q]? := hg.block q (by have := h.lt; omega) (fun e => by have := h.own.lt q e.symm; omega)
    rw [Below.heap_setCell _ _ _ _ (by show q ≠ g5; omega), h1]
    exact h.old.block q hq
  · rw [heap_setCell_same _ _ _ _ _ _ (hb.trans h.blk)]
    rfl
  · rw [flat_snoc]
    exact ho.kept hgr (by
      rcases hv : v'.ownBlock with _ | q
      · exact .inl rfl
      · right
        intro e
        have := ho.lt q hv
        cases e
        omega)
end

set_option maxRecDepth 100000 in
set_option maxHeartbeats 2000000 in
theorem refCut_any (b t x : BitVec 64) (A : Option Addr) (n c : Nat) (L : Its) (w : World) (h : ItemsAt w A n L) (hn : n ≤ 1048576) :
    Calls Try.prog 62 #[refV b t A n c, .int .u64 (x.toNat : Int)] w (RefPost x t (L.filter fun p => decide (x.toNat < p.1.toNat)) w) := by
  have hb1 := (Below.refl w.heap.size w).alloc (Nat.le_refl _) (.cells (refCells b t A n c) 46)
  have h1 := h.below hb1
  have hr := RefAt.new w b t A n c
  have hl := Lib.hid h.hlen; clear h
  unfold refV
  go_enter Try.func62, Try.ntmps62
  go_upto_region 1 with fail
  have hb2 := hb1.alloc hb1.size (.cells (refCells 0#64 0#64 none 0 0) 46)
  have hr2 := hr.below ((Below.refl _ _).alloc (Nat.le_refl _) (.cells (refCells 0#64 0#64 none 0 0) 46))
  have ho2 := RefAt.new (w.alloc (.cells (refCells b t A n c) 46)) 0#64 0#64 none 0 0
  have hi2 := h1.below ((Below.refl _ _).alloc (Nat.le_refl _) (.cells (refCells 0#64 0#64 none 0 0) 46))
  have hs2 : ((w.alloc (.cells (refCells b t A n c) 46)).alloc (.cells (refCells 0#64 0#64 none 0 0) 46)).heap.size = w.heap.size + 2 := by simp
  have hsz : (w.alloc (.cells (refCells b t A n c) 46)).heap.size = w.heap.size + 1 := by simp
  rw [hsz] at ho2
  clear hb1 h1 hr hsz
  change Code.wp _ _ _ _ ((w.alloc (.cells (refCells b t A n c) 46)).alloc (.cells (refCells 0#64 0#64 none 0 0) 46))
  generalize (w.alloc (.cells (refCells b t A n c) 46)).alloc (.cells (refCells 0#64 0#64 none 0 0) 46) = w2 at *
  obtain ⟨g, hg⟩ : ∃ g, w.heap.size = g := ⟨_, rfl⟩
  rw [hg] at hb2 hr2 ho2 hs2 ⊢
  have r1 := hr2.cells.2.1
  have Hg := Lib.hid hg; clear hg
  have Hs2 := Lib.hid hs2; clear hs2
  go_upto_region 2 with fail
  change Code.wp _ _ _ _ (w2.alloc (.cells (refCells x t none 0 0) 46))
  have hbd : Build w2.heap.size (w2.alloc (.cells (refCells x t none 0 0) 46)) (w2.alloc (.cells (refCells x t none 0 0) 46)) x t (.slice none 0 0) 0 [] :=
    ⟨Below.refl _ _, by simp, heap_alloc_new w2 _, World.ownsRow_nil _ _ _ _⟩
  have hb3 := hb2.alloc (by have := Hs2.out; omega) (.cells (refCells x t none 0 0) 46)
  have hr3 := (hr2.below ((Below.refl _ _).alloc (Nat.le_refl _) (.cells (refCells x t none 0 0) 46))).cells.2.2
  have ho3 := ho2.below ((Below.refl _ _).alloc (Nat.le_refl _) (.cells (refCells x t none 0 0) 46))
  have hi3 := hi2.below ((Below.refl _ _).alloc (Nat.le_refl _) (.cells (refCells x t none 0 0) 46))
  have hA : ∀ b o, A = some ⟨b, o, none⟩ → 0 < n → b < w2.heap.size := fun b o e hn => by
    obtain ⟨b', o', h1, h2, _⟩ := items_get hi2 hn
    rw [e] at h1
    cases h1
    exact h2
  generalize w2.alloc (.cells (refCells x t none 0 0) 46) = w3 at *
  obtain ⟨g5, hg5⟩ : ∃ g5, w2.heap.size = g5 := ⟨_, rfl⟩
  rw [hg5] at hbd hA ⊢
  have hg25 : g < g5 ∧ g + 1 < g5 := by have := Hs2.out; omega
  clear hg5 Hs2 r1 hb2 hr2 ho2 hi2
  have Hb3 := Lib.hid hb3; clear hb3
  have Ho3 := Lib.hid ho3; clear ho3
  have Hi3 := Lib.hid hi3; clear hi3
  have HA := Lib.hid hA; clear hA
  have Hbd := Lib.hid hbd; clear hbd
  have Hr3 := Lib.hid hr3; clear hr3
  have hg4 : g < g + 1 := by omega
  generalize g + 1 = g4 at *
  go_wp2_with fail
  go_loopw [6] (fun s6 wr => ∃ i v k, i ≤ n ∧ s6 = .int .i64 (i : Int) ∧ k ≤ i ∧ Build g5 w3 wr x t v k ((L.take i).filter fun p => decide (x.toNat < p.1.toNat))) (fun s6 _ => n - (intOf s6).toNat)
  case atStart => exact ⟨0, _, 0, by omega, rfl, by omega, Hbd.out⟩
  case round =>
    obtain ⟨i, v, k, hi, rfl, hk, hbd⟩ := hrel
    clear Hbd
    have rr : wr.cell? ⟨g, 2, none⟩ = some (.slice A n c) := by
      rw [← Hr3.out]
      exact hbd.cellOld (y := wr) ⟨rfl, rfl, rfl, Nat.le_refl _, fun _ _ _ => rfl⟩ hg25.1
    have hlen := hl.out
    by_cases hlt : i < n
    · have hlt' : (i : Int) < (n : Int) := by omega
      obtain ⟨b', o, hAe, _, _, _⟩ := items_get Hi3.out hlt
      subst hAe
      have hbA := HA.out b' o rfl (by omega)
      have hcellA : ∀ y : World, wr.grownBy y v.ownBlock → y.cell? ⟨b', o + i * 2, none⟩ = some (.int .u64 ((L.getD i dflt).1.toNat : Int)) ∧ y.cell? ⟨b', o + i * 2 + 1, none⟩ = some (.string (L.getD i dflt).2) := fun y hy => by
        obtain ⟨b2, o2, e, _, e0, e1⟩ := items_get Hi3.out hlt
        cases e
        exact ⟨(hbd.cellOld hy hbA).trans e0, (hbd.cellOld hy hbA).trans e1⟩
      obtain ⟨e0, e1⟩ := hcellA wr ⟨rfl, rfl, rfl, Nat.le_refl _, fun _ _ _ => rfl⟩
      have hsn := filter_snoc (i := i) (fun p => decide (x.toNat < p.1.toNat)) (show i < L.length by omega)
      have hsucc := i64_succ (n := i) (by omega)
      generalize L.getD i dflt = p at *
      obtain ⟨kk, val⟩ := p
      simp only at e0 e1 hcellA hsn
      by_cases hx : x.toNat < kk.toNat
      · have d1 : (x.toNat : Int) < (kk.toNat : Int) := by omega
        rw [decide_eq_true hx] at hsn
        simp only [if_true] at hsn
        have Hsn := Lib.hid hsn; clear hsn
        have Hbd := Lib.hid hbd; clear hbd
        have HcA := Lib.hid hcellA; clear hcellA
        clear hx hlen
        go_wp2_with fail
        refine RegR.wp_region_can (fun y => Below wr.heap.size wr y) [(0, 0), (1, 0), (2, 0), (3, 0), (4, 0), (5, 0), (6, 0), (7, 1), (8, 3), (9, 0), (10, 2)] (by kernel_rfl) (by kernel_rfl) (fun _ _ d _ _ h => by cases d <;> exact h) ⟨rfl, rfl, rfl, Nat.le_refl _, fun _ _ => rfl⟩ ?_
        dsimp only [RegR.pick, List.getElem?_cons_zero, List.getElem?_cons_succ]
        refine RegR.can_read (.pointer (some ⟨g5, 2, none⟩)) rfl (fun y hy => ?_) ?_
        · go_simp
        refine RegR.can_read v rfl (fun y hy => ?_) ?_
        · have hc := (Hbd.out.cell (below_grown hy)).1
          go_simp
        refine RegR.can_read (.pointer (some ⟨g, 2, none⟩)) rfl (fun y hy => ?_) ?_
        · go_simp
        refine RegR.can_read (.slice (some ⟨b', o, none⟩) n c) rfl (fun y hy => ?_) ?_
        · have hc : y.cell? ⟨g, 2, none⟩ = some (.slice (some ⟨b', o, none⟩) n c) := by rw [← Hr3.out]; exact Hbd.out.cellOld (below_grown hy) hg25.1
          go_simp
        refine RegR.can_read (.int .i64 (i : Int)) rfl (fun y hy => ?_) ?_
        · go_simp
        refine RegR.can_read (.pointer (some ⟨b', o + i * 2, none⟩)) rfl (fun y hy => ?_) ?_
        · go_simp
        refine RegR.can_read (.agg #[.int .u64 (kk.toNat : Int), .string val]) rfl (fun y hy => ?_) ?_
        · obtain ⟨f0, f1⟩ := HcA.out y (below_grown hy)
          go_simp
        obtain ⟨i0, hi0, hz0, hz1, hz2⟩ := info_parts infoItem
        refine RegR.can_turn rfl ?_
        go_simp
        have hbw : Below wr.heap.size wr ((wr.alloc (.cells #[.int .u64 (kk.toNat : Int), .string val] 33)).drew) := by
          have h := (Below.refl _ wr).alloc (Nat.le_refl _) (.cells #[.int .u64 (kk.toNat : Int), .string val] 33)
          exact ⟨h.os, h.tape, h.output, h.size, h.block⟩
        refine ⟨hbw, ?_⟩
        have hgrow0 := below_grown (row := v.ownBlock) hbw
        refine RegR.can_free rfl ?_
        refine wp_append_own _ _ _ 38 rfl (g5 + 1) 33 i0 (.agg #[.int .u64 0, .string ByteArray.empty]) 2 24 Try.underlying38 hi0 hz0 hz1 hz2 rfl (by decide) v k _ rfl (Hbd.out.own.alloc _).drew ⟨wr.heap.size, 0, none⟩ 1 1 [.int .u64 (kk.toNat : Int), .string val] rfl rfl (cells_new _ _ _) (by simp [Value.oneCell']) (by unfold maxLen; omega) (by omega) (by have := Hbd.out.lt; simp; omega) ?_
        intro v' w' hown' hgr hnil
        refine ⟨fun y => y = w', rfl, ?_⟩
        refine RegR.can_read (.pointer (some ⟨g5, 2, none⟩)) rfl (fun y hy => ?_) ?_
        · go_simp
        refine RegR.can_end rfl ?_
        obtain ⟨f0, f1⟩ := Hbd.out.cell (hgrow0.trans hgr)
        obtain ⟨A', c', rfl⟩ := own_slice hown'
        have hbd2 := Hbd.out.step (p := (kk, val)) (hgrow0.trans hgr) hown'
        rw [← Hsn.out] at hbd2
        have Hbd2 := Lib.hid hbd2; clear hbd2 hown' hgr hnil
        go_simp
        go_wp2_with fail
        go_roundw
        case rel => exact ⟨i + 1, _, _, hlt, rfl, by omega, Hbd2.out⟩
        case measure => simp [intOf]; omega
      · have d1 : ¬ (x.toNat : Int) < (kk.toNat : Int) := by omega
        rw [decide_eq_false hx] at hsn
        simp only [Bool.false_eq_true, if_false, List.append_nil] at hsn
        rw [← hsn] at hbd
        have Hbd := Lib.hid hbd; clear hbd hsn hx hlen hcellA
        go_wp2_with fail
        go_roundw
        case rel => exact ⟨i + 1, v, k, hlt, rfl, by omega, Hbd.out⟩
        case measure => simp [intOf]; omega
    · have hlt' : ¬ (i : Int) < (n : Int) := by omega
      rw [List.take_of_length_le (by omega)] at hbd
      have Hbd := Lib.hid hbd; clear hbd hlen
      obtain ⟨A', c', rfl⟩ := own_slice Hbd.out.own
      have b0 : wr.cell? ⟨g5, 0, none⟩ = some (.int .u64 (x.toNat : Int)) := cell_of_row _ _ _ _ _ _ Hbd.out.blk
      have b1 : wr.cell? ⟨g5, 1, none⟩ = some (.int .u64 (t.toNat : Int)) := cell_of_row _ _ _ _ _ _ Hbd.out.blk
      have b2 : wr.cell? ⟨g5, 2, none⟩ = some (.slice A' k c') := cell_of_row _ _ _ _ _ _ Hbd.out.blk
      have ho4 : RefAt wr g4 0#64 0#64 none 0 0 := (Hbd.out.old.block g4 hg25.2).trans Ho3.out
      obtain ⟨o0, o1, o2⟩ := ho4.cells
      have z0 : ∀ j, wr.frozen? ⟨g4, j, none⟩ = false := fun j => by
        have := ho4
        unfold RefAt at this
        simp [World.frozen?, this]
      have z1 := z0 0
      have z2 := z0 1
      have z3 := z0 2
      have Hz0 := Lib.hid z0; clear z0
      have Ho4 := Lib.hid ho4; clear ho4
      go_wp2_with fail
      have h1 := heap_setCell_same wr g4 0 _ _ (.int .u64 (x.toNat : Int)) Ho4.out
      have h2 := heap_setCell_same _ g4 1 _ _ (.int .u64 (t.toNat : Int)) h1
      have h3 := heap_setCell_same _ g4 2 _ _ (.slice A' k c') h2
      clear h1 h2
      have h3' : RefAt (((wr.setCell ⟨g4, 0, none⟩ (.int .u64 (x.toNat : Int))).setCell ⟨g4, 1, none⟩ (.int .u64 (t.toNat : Int))).setCell ⟨g4, 2, none⟩ (.slice A' k c')) g4 x t A' k c' := h3
      refine bodyPost_ret (v := refV x t A' k c') (results_cell_row rfl _ _ g4 _ _ _ _ rfl h3' Try.underlying46 rfl infoRefRow) rfl ?_
      have hit := ItemsAt.of_own Hbd.out.own
      have hsz4 : (((wr.setCell ⟨g4, 0, none⟩ (.int .u64 (x.toNat : Int))).setCell ⟨g4, 1, none⟩ (.int .u64 (t.toNat : Int))).setCell ⟨g4, 2, none⟩ (.slice A' k c')).heap.size = wr.heap.size := by simp [World.setCell]
      have hoth : ∀ q, q ≠ g4 → (((wr.setCell ⟨g4, 0, none⟩ (.int .u64 (x.toNat : Int))).setCell ⟨g4, 1, none⟩ (.int .u64 (t.toNat : Int))).setCell ⟨g4, 2, none⟩ (.slice A' k c')).heap[q]? = wr.heap[q]? := fun q hq => by
        rw [Below.heap_setCell _ _ _ _ (by exact hq), Below.heap_setCell _ _ _ _ (by exact hq), Below.heap_setCell _ _ _ _ (by exact hq)]
      refine ⟨A', k, c', rfl, ?_, ?_, own_ok Hbd.out.own⟩
      · refine ⟨hit.hlen, hit.hmax, fun j y hj => ?_⟩
        obtain ⟨bb, oo, e1, e2, e3⟩ := hit.cells j y hj
        refine ⟨bb, oo, e1, by rw [hsz4]; exact e2, fun q u hq => ?_⟩
        have hne : bb ≠ g4 := by
          have := Hbd.out.own.lt bb (by rw [e1]; rfl)
          omega
        rw [← e3 q u hq]
        simp only [World.cell?, hoth bb hne]
      · have hw := Hb3.out
        have hbo := Hbd.out.old
        have hgs := Hg.out
        refine ⟨hbo.os.trans hw.os, hbo.tape.trans hw.tape, hbo.output.trans hw.output, by rw [hsz4]; exact Nat.le_trans hw.size hbo.size, fun q hq => ?_⟩
        rw [hoth q (by omega), hbo.block q (by omega)]
        exact hw.block q (by omega)
end Go.Proofs.Ytimhpncdlaildaa
