/- Log: a log in the world; Sync, Segments. Condition: as each theorem says. -/
import Derived.Test.YtogfladmgbldcaaGreatDoorZLogKnown9
namespace Go.Proofs.YtogfladmgbldcaaGreatDoor
open Go.RowKit Go.Shelf
def LogAt (w : World) (l p : Nat) : Prop := w.heap[l]? = some (.cells #[.pointer (some ⟨p, 0, none⟩)] 93 (0, 0))
/-- What has come of a log and its disk since w: nothing but L, and new blocks, has turned. -/
structure LoR (l p bb : Nat) (L : List Nat) (D : DskV) (w y : World) : Prop where
  log : LogAt y l p
  dsk : ∃ L1 n C, DskAt y p bb n C L1 D ∧ (∀ g ∈ L1, g < y.heap.size ∧ (g ∈ L ∨ w.heap.size ≤ g)) ∧ l ∉ L1
  t : Turns L w y
  far : ∃ B, PVB B w ∧ B ≤ w.heap.size ∧ ∀ g ∈ L, B ≤ g
section
variable {l p bb : Nat} {L : List Nat} {D : DskV} {w y y' : World}
theorem LoR.pv (h : LoR l p bb L D w y) : PV y := by
  obtain ⟨B, h1, h2, h3⟩ := h.far
  exact h1 y (h.t.below (Below.refl _ _) h2 h3)
theorem LoR.ris (h : LoR l p bb L D w y) : Rise D.fs := by
  obtain ⟨L1, n, C, h1, _⟩ := h.dsk
  exact h1.ris
theorem LoR.syn (h : LoR l p bb L D w y) : (∀ f ∈ D.fs, f.sy ≤ f.by_.length) ∧ totF D.fs ≤ 4194304 := by
  obtain ⟨L1, n, C, h1, _⟩ := h.dsk
  exact ⟨h1.syn, by have := h1.sum; omega⟩
theorem LoR.below (h : LoR l p bb L D w y) (hb : Below y.heap.size y y') : LoR l p bb L D w y' := by
  obtain ⟨L1, n, C, h1, h2, h3⟩ := h.dsk
  exact ⟨(hb.block l (Array.getElem?_eq_some_iff.1 h.log).1).trans h.log, ⟨L1, n, C, h1.keep (fun g hg => hb.block g (h2 g hg).1), fun g hg => ⟨Nat.lt_of_lt_of_le (h2 g hg).1 hb.size, (h2 g hg).2⟩, h3⟩, h.t.trans (Turns.of hb), h.far⟩
theorem LoR.act (h : LoR l p bb L D w y) {R : DskV × Nat} {f : FuncId} {args : Array Value} (hc : ∀ n C L1, DskAt y p bb n C L1 D → (∀ g ∈ L1, g < y.heap.size) → Calls Tryz.prog f args y (fun e y' => ∃ k, e = .returned (.int .i64 k) ∧ DkR p bb L1 R y k y')) :
    Calls Tryz.prog f args y fun e y' => e = .returned (.int .i64 (R.2 : Int)) ∧ LoR l p bb L R.1 w y' := by
  obtain ⟨L1, n, C, h1, h2, h3⟩ := h.dsk
  refine (hc n C L1 h1 (fun g hg => (h2 g hg).1)).mono ?_
  rintro e y' ⟨k, rfl, rfl, n', C', L', hd, ht, hl⟩
  obtain ⟨L2, hd2, hl2⟩ := hd.trim
  have hlt := (Array.getElem?_eq_some_iff.1 h.log).1
  refine ⟨rfl, ⟨(ht.block l hlt h3).trans h.log, ⟨L2, n', C', hd2, fun g hg => ⟨(hl2 g hg).2, ?_⟩, fun hg => ?_⟩, ?_, h.far⟩⟩
  · rcases hl g (hl2 g hg).1 with q | q
    · exact (h2 g q).2
    · exact .inr (Nat.le_trans h.t.size q)
  · rcases hl l (hl2 l hg).1 with q | q
    · exact h3 q
    · omega
  · refine ⟨ht.os.trans h.t.os, ht.tape.trans h.t.tape, ht.out.trans h.t.out, Nat.le_trans h.t.size ht.size, fun g hg hn => (ht.block g (Nat.lt_of_lt_of_le hg h.t.size) (fun q => ?_)).trans (h.t.block g hg hn)⟩
    rcases (h2 g q).2 with q2 | q2
    · exact hn q2
    · omega
theorem LoR.cell (h : LoR l p bb L D w y) : y.cell? ⟨l, 0, none⟩ = some (.pointer (some ⟨p, 0, none⟩)) := cell_of_row _ _ 0 _ _ _ h.log
/-- The segments, as a row that can be read. -/
theorem LoR.segs (h : LoR l p bb L D w y) (hlen : D.fs.length ≤ 1000000) : Calls Tryz.prog 51 #[.pointer (some ⟨p, 0, none⟩)] y fun e y' => ∃ v, e = .returned v ∧ SegR y.heap.size y' v (segL D.fs) ∧ LoR l p bb L D w y' ∧ Below y.heap.size y y' := by
  obtain ⟨L1, n, C, h1, h2, h3⟩ := h.dsk
  refine (segments_any hlen y h.pv h1).mono ?_
  rintro e y' ⟨v, rfl, ho, hb⟩
  exact ⟨v, rfl, seg_row ho, h.below hb, hb⟩
end
theorem seg_nm {fs : List FilV} {x : Nat × FilV} (h : x ∈ segL fs) : x.2.nm.length = 9 := by
  have h2 := (seg_mem h).2
  unfold numN at h2
  split at h2
  · next h3 => exact h3.1
  · cases h2
theorem last_at {all : List (Nat × FilV)} {x : Nat × FilV} (h : all.getLast? = some x) : ∃ M, all.length = M + 1 ∧ all[M]? = some x ∧ x ∈ all := by
  obtain ⟨pre, rfl⟩ := List.getLast?_eq_some_iff.1 h
  exact ⟨pre.length, by simp, by simp, by simp⟩
set_option maxRecDepth 100000 in
set_option maxHeartbeats 4000000 in
theorem lsync_any {l p bb : Nat} {L : List Nat} {D : DskV} {w y : World} (h : LoR l p bb L D w y) (hlen : D.fs.length ≤ 1000000) :
    Calls Tryz.prog 28 #[.pointer (some ⟨l, 0, none⟩)] y fun e y' => e = .returned (.int .i64 ((lsyncD D).2 : Int)) ∧ LoR l p bb L (lsyncD D).1 w y' := by
  have hc := h.cell
  have HSG := Lib.hid (h.segs hlen)
  clear h
  obtain ⟨R, hR⟩ : ∃ R, R = lsyncD D := ⟨_, rfl⟩
  rw [← hR]
  unfold lsyncD at hR
  cases hl : lastS D with
  | none =>
    rw [hl] at hR
    have hs : segL D.fs = [] := List.getLast?_eq_none_iff.1 hl
    rw [hs] at HSG
    have HRR := Lib.hid hR
    clear hl hs hR
    go_enter Tryz.func28, Tryz.ntmps28
    go_wp2_with (go_at_call 51; (with_reducible refine HSG.out.mono ?_); rintro e w1 ⟨v, rfl, ⟨A, c, rfl, -⟩, hL, -⟩; have HL := Lib.hid hL; clear hL)
    go_ret
    rw [HRR.out]
    exact ⟨rfl, HL.out⟩
  | some x =>
    rw [hl] at hR
    dsimp only at hR
    obtain ⟨M, hM, hxs, hxm⟩ := last_at hl
    have hnl := seg_nm hxm
    have HX := Lib.hid (And.intro hxs (And.intro hR hnl))
    have HM := Lib.hid hM
    obtain ⟨nb, hnb⟩ : ∃ nb : ByteArray, nb = ⟨x.2.nm.toArray⟩ := ⟨_, rfl⟩
    have hnbs : nb.size ≤ maxLen := by rw [hnb]; show x.2.nm.toArray.size ≤ _; rw [List.size_toArray, hnl]; decide
    have HNB := Lib.hid (And.intro hnb hnbs)
    clear hl hxs hxm hR hnl hnb hnbs hM
    go_enter Tryz.func28, Tryz.ntmps28
    go_upto_region 4 with (go_at_call 51; (with_reducible refine HSG.out.mono ?_); rintro e w1 ⟨v, rfl, ⟨A, c, rfl, Y, hY1, hY2⟩, hL, -⟩; have HL := Lib.hid (And.intro hY1 (And.intro hY2 hL)); clear hY1 hY2 hL)
    obtain ⟨N, hN⟩ : ∃ N, N = (segL D.fs).length := ⟨_, rfl⟩
    have hMN : N = M + 1 := by rw [hN]; exact HM.out
    have hN6 : N ≤ 1000000 := by rw [hN]; exact Nat.le_trans (segL_len D.fs) hlen
    rw [← hN]
    obtain ⟨gk, rfl, hck⟩ := HL.out.2.1 M x HX.out.1
    have HCK := Lib.hid (fun (z : World) (hz : Below w1.heap.size w1 z) => (show z.cell? ⟨gk, M * 4 + 1, none⟩ = some (.string nb) ∧ z.cell? ⟨l, 0, none⟩ = some (.pointer (some ⟨p, 0, none⟩)) from ⟨by rw [HNB.out.1]; exact (hck z (fun r o hr ho => (hz.block r (HL.out.1 r hr).2).trans ho)).2.1, (HL.out.2.2.below hz).cell⟩))
    have HAC := Lib.hid (fun (z : World) (hz : Below w1.heap.size w1 z) => (show Calls Tryz.prog 20 #[.pointer (some ⟨p, 0, none⟩), .string nb] z (fun e w' => e = .returned (.int .i64 (R.2 : Int)) ∧ LoR l p bb L R.1 w w') from by
      rw [HX.out.2.1, show x.2.nm = nb.data.toList from by rw [HNB.out.1]]
      exact (HL.out.2.2.below hz).act (fun n C L1 hd hlt => sync_any nb HNB.out.2 z hd)))
    have hNz : ((N : Int) == 0) = false := by rw [beq_eq_false_iff_ne]; omega
    have hw1 : IntKind.i64.wrap ((N : Int) - 1) = (M : Int) := by rw [IntWalk.i64_in _ (by omega)]; omega
    have hMI : (M : Int) < (N : Int) := by omega
    have hMn : M < N := by omega
    clear hck hc
    clear hN hMN
    go_upto_region 6 with fail
    refine (wpIn_wide (n := 1)).1 ?_
    refine RegK.wpIn_region_can (F := Fence.wide) (KeptW w1) [(0, 0), (1, 0), (2, 0), (3, 0), (4, 0), (5, 0), (6, 0), (7, 0), (8, 0), (9, 0), (10, 0), (11, 0), (12, 3), (13, 0)] (by kernel_rfl) (by kernel_rfl) (by kernel_rfl) (fun _ _ d _ _ h => by cases d <;> exact h) ⟨rfl, rfl, rfl, Nat.le_refl _, fun _ _ => rfl⟩ ?_
    dsimp only [RegK.pick, List.getElem?_cons_zero, List.getElem?_cons_succ]
    change RegK.Can _ _ _ _ _ _ _ _ w1.drew
    have hkd : KeptW w1 w1.drew := ⟨rfl, rfl, rfl, Nat.le_refl _, fun _ _ => rfl⟩
    generalize w1.drew = v8 at *
    iterate 3 (refine RegK.can_reads ?_; intro K hK; go_simp; (first | refine ⟨_, fun _ _ => rfl, hK _ ?_⟩ | refine hK _ ?_); clear hK K)
    refine RegK.can_reads ?_
    intro K hK
    go_simp
    refine ⟨.pointer (some ⟨p, 0, none⟩), fun y hy => ?_, hK _ ?_⟩
    · have c0 := (HCK.out y (KeptW.bel hy)).2
      go_simp
    clear hK K
    iterate 7 (refine RegK.can_reads ?_; intro K hK; go_simp; (first | refine ⟨_, fun _ _ => rfl, hK _ ?_⟩ | refine hK _ ?_); clear hK K)
    refine RegK.can_reads ?_
    intro K hK
    go_simp
    refine ⟨.string nb, fun y hy => ?_, hK _ ?_⟩
    · have c0 := (HCK.out y (KeptW.bel hy)).1
      go_simp
    clear hK K
    refine RegK.can_frees (fun _ => trivial) ?_
    intro K K0 hK hK0
    go_simp
    refine ⟨trivial, ?_⟩
    refine (callsIn_wide.2 (HAC.out v8 (KeptW.bel hkd))).mono ?_
    rintro e w9 ⟨rfl, hz9⟩
    refine hK (fun _ => True) _ _ trivial ?_
    clear hK K hK0 K0
    refine RegK.can_reads ?_; intro K hK; go_simp; (first | refine ⟨_, fun _ _ => rfl, hK _ ?_⟩ | refine hK _ ?_); clear hK K
    refine RegK.can_nil ?_
    have HZ := Lib.hid hz9
    clear hz9
    go_wp2
    go_ret
    exact ⟨rfl, HZ.out⟩
set_option maxRecDepth 100000 in
theorem lsegs_any {l p bb : Nat} {L : List Nat} {D : DskV} {w y : World} (h : LoR l p bb L D w y) (hlen : D.fs.length ≤ 1000000) :
    Calls Tryz.prog 30 #[.pointer (some ⟨l, 0, none⟩)] y fun e y' => e = .returned (.int .i64 ((segL D.fs).length : Int)) ∧ LoR l p bb L D w y' ∧ Below y.heap.size y y' := by
  have hc := h.cell
  have HSG := Lib.hid (h.segs hlen)
  clear h
  go_enter Tryz.func30, Tryz.ntmps30
  go_wp2_with (go_at_call 51; (with_reducible refine HSG.out.mono ?_); rintro e w1 ⟨v, rfl, ⟨A, c, rfl, -⟩, hL, hb⟩; have HL := Lib.hid (And.intro hL hb); clear hL hb)
  go_ret
  exact ⟨rfl, HL.out⟩
end Go.Proofs.YtogfladmgbldcaaGreatDoor
namespace Go.Proofs.YtogfladmgbldcaaGreatDoor
open Go.RowKit Go.Shelf
set_option maxRecDepth 100000 in
set_option maxHeartbeats 4000000 in
theorem lopen1_any {l p bb : Nat} {L : List Nat} {D : DskV} {w y : World} (h : LoR l p bb L D w y) (b1 b2 b3 gk N M E c : Nat) (nb : ByteArray) (hN : N = M + 1) (hN6 : N ≤ 1000000) (hE : E ≤ 1000000000) (hnb : nb.size ≤ maxLen)
    (HC : ∀ z, Below y.heap.size y z → z.cell? ⟨b1, 0, none⟩ = some (.pointer (some ⟨l, 0, none⟩)) ∧ z.cell? ⟨b2, 0, none⟩ = some (.slice (some ⟨gk, 0, none⟩) N c) ∧ z.cell? ⟨b3, 0, none⟩ = some (.int .i64 (E : Int)) ∧ z.cell? ⟨gk, M * 4 + 1, none⟩ = some (.string nb)) :
    Calls Tryz.prog 54 #[.pointer (some ⟨b1, 0, none⟩), .pointer (some ⟨b2, 0, none⟩), .pointer (some ⟨b3, 0, none⟩)] y fun e y' => e = .returned (.int .i64 ((cutD D nb.data.toList (E : Int)).2 : Int)) ∧ LoR l p bb L (cutD D nb.data.toList (E : Int)).1 w y' := by
  have HCK := Lib.hid (fun (z : World) (hz : Below y.heap.size y z) => And.intro (h.below hz).cell (HC z hz))
  obtain ⟨R, hR⟩ : ∃ R, R = cutD D nb.data.toList (E : Int) := ⟨_, rfl⟩
  rw [← hR]
  have HAC := Lib.hid (fun (z : World) (hz : Below y.heap.size y z) => (show Calls Tryz.prog 55 #[.pointer (some ⟨p, 0, none⟩), .string nb, .int .i64 (E : Int)] z (fun e w' => e = .returned (.int .i64 (R.2 : Int)) ∧ LoR l p bb L R.1 w w') from by
    rw [hR]
    exact (h.below hz).act (fun n C L1 hd hlt => cut_any nb hnb (E : Int) ⟨by omega, by omega⟩ z hd hlt)))
  have hw1 : IntKind.i64.wrap ((N : Int) - 1) = (M : Int) := by rw [IntWalk.i64_in _ (by omega)]; omega
  have hMI : (M : Int) < (N : Int) := by omega
  have hMn : M < N := by omega
  clear hN HC h hR hnb
  go_enter Tryz.func54, Tryz.ntmps54
  go_upto_region 1 with fail
  refine (wpIn_wide (n := 1)).1 ?_
  refine RegK.wpIn_region_can (F := Fence.wide) (KeptW y) [(0, 0), (1, 0), (2, 0), (3, 0), (4, 0), (5, 0), (6, 0), (7, 0), (8, 0), (9, 0), (10, 0), (11, 0), (12, 0), (13, 3), (14, 0)] (by kernel_rfl) (by kernel_rfl) (by kernel_rfl) (fun _ _ d _ _ h => by cases d <;> exact h) ⟨rfl, rfl, rfl, Nat.le_refl _, fun _ _ => rfl⟩ ?_
  dsimp only [RegK.pick, List.getElem?_cons_zero, List.getElem?_cons_succ]
  change RegK.Can _ _ _ _ _ _ _ _ y.drew
  have hkd : KeptW y y.drew := ⟨rfl, rfl, rfl, Nat.le_refl _, fun _ _ => rfl⟩
  generalize y.drew = v8 at *
  refine RegK.can_reads ?_
  intro K hK
  go_simp
  refine ⟨.pointer (some ⟨l, 0, none⟩), fun q hy => ?_, hK _ ?_⟩
  · have c0 := (HCK.out _ (KeptW.bel hy)).2.1
    go_simp
  clear hK K
  iterate 2 (refine RegK.can_reads ?_; intro K hK; go_simp; (first | refine ⟨_, fun _ _ => rfl, hK _ ?_⟩ | refine hK _ ?_); clear hK K)
  refine RegK.can_reads ?_
  intro K hK
  go_simp
  refine ⟨.pointer (some ⟨p, 0, none⟩), fun q hy => ?_, hK _ ?_⟩
  · have c0 := (HCK.out _ (KeptW.bel hy)).1
    go_simp
  clear hK K
  refine RegK.can_reads ?_
  intro K hK
  go_simp
  refine ⟨.slice (some ⟨gk, 0, none⟩) N c, fun q hy => ?_, hK _ ?_⟩
  · have c0 := (HCK.out _ (KeptW.bel hy)).2.2.1
    go_simp
  clear hK K
  refine RegK.can_reads ?_
  intro K hK
  go_simp
  refine ⟨.slice (some ⟨gk, 0, none⟩) N c, fun q hy => ?_, hK _ ?_⟩
  · have c0 := (HCK.out _ (KeptW.bel hy)).2.2.1
    go_simp
  clear hK K
  iterate 5 (refine RegK.can_reads ?_; intro K hK; go_simp; (first | refine ⟨_, fun _ _ => rfl, hK _ ?_⟩ | refine hK _ ?_); clear hK K)
  refine RegK.can_reads ?_
  intro K hK
  go_simp
  refine ⟨.string nb, fun q hy => ?_, hK _ ?_⟩
  · have c0 := (HCK.out _ (KeptW.bel hy)).2.2.2.2
    go_simp
  clear hK K
  refine RegK.can_reads ?_
  intro K hK
  go_simp
  refine ⟨.int .i64 (E : Int), fun q hy => ?_, hK _ ?_⟩
  · have c0 := (HCK.out _ (KeptW.bel hy)).2.2.2.1
    go_simp
  clear hK K
  refine RegK.can_frees (fun _ => trivial) ?_
  intro K K0 hK hK0
  go_simp
  refine ⟨trivial, ?_⟩
  refine (callsIn_wide.2 (HAC.out v8 (KeptW.bel hkd))).mono ?_
  rintro e w9 ⟨rfl, hz9⟩
  refine hK (fun _ => True) _ _ trivial ?_
  clear hK K hK0 K0
  refine RegK.can_reads ?_; intro K hK; go_simp; (first | refine ⟨_, fun _ _ => rfl, hK _ ?_⟩ | refine hK _ ?_); clear hK K
  refine RegK.can_nil ?_
  have HZ := Lib.hid hz9
  clear hz9
  go_wp2
  go_ret
  exact ⟨rfl, HZ.out⟩
theorem LoR.base {l p bb : Nat} {L : List Nat} {D : DskV} {w W y : World} (h : LoR l p bb L D W y) (hb : Below w.heap.size w W) (hf : ∃ B, PVB B w ∧ B ≤ w.heap.size ∧ ∀ g ∈ L, B ≤ g) : LoR l p bb L D w y := by
  obtain ⟨L1, n, C, h1, h2, h3⟩ := h.dsk
  exact ⟨h.log, ⟨L1, n, C, h1, fun g hg => ⟨(h2 g hg).1, (h2 g hg).2.imp id (fun q => Nat.le_trans hb.size q)⟩, h3⟩, (Turns.of hb).trans h.t, hf⟩
theorem totS_seg : ∀ fs : List FilV, totS (segL fs) ≤ totF fs
  | [] => Nat.le_refl _
  | f :: r => by
    have ih := totS_seg r
    rw [tot_cons]
    unfold segL at ih ⊢
    rw [List.filterMap_cons]
    cases hs : segF f with
    | none => dsimp only; omega
    | some x =>
      have hx : x.2 = f := by
        unfold segF at hs
        cases hn : numN f.nm with
        | none => rw [hn] at hs; cases hs
        | some n => rw [hn] at hs; cases hs; rfl
      unfold totS at ih ⊢
      dsimp only
      rw [List.map_cons, List.sum_cons, hx]
      omega
theorem cutD_len {D : DskV} (h : Rise D.fs) (nm : Bs) (n : Int) : (cutD D nm n).1.fs.length = D.fs.length := by
  unfold cutD withD
  split
  · rfl
  · split
    · next f hf =>
      have hn := (find_nm hf).1
      dsimp only
      split
      · rfl
      · exact (put_old (f := { f with by_ := f.by_.take n.toNat }) h (by rw [show ({ f with by_ := f.by_.take n.toNat } : FilV).nm = nm from hn]; exact hf)).2
    · rfl
theorem two_cells (y : World) (u v : Value) (t : TypeId) : (y.alloc (.cells #[u, v] t)).cell? ⟨y.heap.size, 0, none⟩ = some u ∧ (y.alloc (.cells #[u, v] t)).cell? ⟨y.heap.size, 1, none⟩ = some v := ⟨cell_of_row _ _ 0 _ _ _ (heap_alloc_new y _), cell_of_row _ _ 1 _ _ _ (heap_alloc_new y _)⟩
/-- What Open tells of a disk that has power. -/
def LopenR (p bb : Nat) (L : List Nat) (D : DskV) (w : World) (e : Ending) (w' : World) : Prop :=
  (Spoilt (segL D.fs) ∧ e = .returned (.tuple #[.pointer none, .slice none 0 0, .int .i64 10]) ∧ Below w.heap.size w w') ∨
  (¬ Spoilt (segL D.fs) ∧ ∃ l v W, e = .returned (.tuple #[.pointer (some ⟨l, 0, none⟩), v, .int .i64 0]) ∧ Below w.heap.size w W ∧ LoR l p bb L (lopenD D).1 W w' ∧ w.heap.size ≤ l ∧ l < W.heap.size ∧ W.ownsRow w.heap.size 9 1 v (recL (segL D.fs)).length (encS (recL (segL D.fs))))
set_option maxRecDepth 100000 in
set_option maxHeartbeats 16000000 in
theorem lopen_any {p bb n : Nat} {C : Bs → Nat} {L : List Nat} {D : DskV} (hlen : D.fs.length ≤ 100000) (w : World) (hf : ∃ B, PVB B w ∧ B ≤ w.heap.size ∧ ∀ g ∈ L, B ≤ g) (h : DskAt w p bb n C L D) (hL : ∀ g ∈ L, g < w.heap.size) (hdd : D.dead = false) (hok : ¬ Spoilt (segL D.fs) → (lopenD D).2 = 0) :
    Calls Tryz.prog 26 #[.pointer (some ⟨p, 0, none⟩)] w (LopenR p bb L D w) := by
  have H := Lib.hid (And.intro h (And.intro hL (And.intro hlen (And.intro hf hok))))
  have hpv : PV w := by
    obtain ⟨B, h1, _⟩ := hf
    exact h1.here
  have HDead := Lib.hid (show Calls Tryz.prog 22 #[.pointer (some ⟨p, 0, none⟩)] w (fun e w' => e = .returned (.bool false) ∧ w = w') from by have h2 := dead_any w h; rw [hdd] at h2; exact h2)
  have HSG := Lib.hid (segments_any (by omega) w hpv h)
  have HRD := Lib.hid (fun (B : Nat) (y : World) (v : Value) (hr : SegR B y v (segL D.fs)) => read_all (segL D.fs) (by have := totS_seg D.fs; have := h.sum; omega) (fun x hx => h.syn x.2 (seg_mem hx).1) (fun x hx => (seg_num hx).2) (Nat.le_trans (segL_len D.fs) (by omega)) B y v hr)
  clear h hL hlen hf hok hdd hpv
  by_cases hsp : Spoilt (segL D.fs)
  · have HRS := Lib.hid (fun (B : Nat) (y : World) (v : Value) (hr : SegR B y v (segL D.fs)) => (show Calls Tryz.prog 52 #[v] y (fun e y' => e = .returned (.tuple #[.slice none 0 0, .int .i64 0, .bool false]) ∧ Below y.heap.size y y') from (HRD.out B y v hr).mono (by
      rintro e y' ⟨hb, ⟨_, rfl⟩ | ⟨q, _⟩⟩
      · exact ⟨rfl, hb⟩
      · exact (q hsp).elim)))
    have HSP := Lib.hid hsp
    clear hsp
    go_enter Tryz.func26, Tryz.ntmps26
    go_wp2_with (first
      | (go_at_call 22; (with_reducible refine HDead.out.mono ?_); rintro e w1 ⟨rfl, rfl⟩)
      | (go_at_call 51; (with_reducible refine HSG.out.mono ?_); rintro e w1 ⟨v, rfl, ho, hb⟩; have HO := Lib.hid (And.intro (seg_row ho) hb); obtain ⟨A, c, rfl⟩ := own_slice_of ho; clear ho hb)
      | (go_at_call 52; (with_reducible refine (HRS.out w.heap.size _ _ (HO.out.1.below ((Below.refl _ _).alloc (Nat.le_refl _) _))).mono ?_); rintro e w3 ⟨rfl, hb⟩; have HB3 := Lib.hid hb; clear hb))
    go_ret3
    have hbA := HO.out.2.alloc HO.out.2.size (.cells #[.slice A (segL D.fs).length c] 88)
    have hbB := hbA.trans (HB3.out.mono hbA.size)
    exact .inl ⟨HSP.out, rfl, hbB.alloc hbB.size _⟩
  · obtain ⟨E, hE⟩ : ∃ E, E = endL (segL D.fs) := ⟨_, rfl⟩
    obtain ⟨RL, hRL⟩ : ∃ RL, RL = recL (segL D.fs) := ⟨_, rfl⟩
    have HRS := Lib.hid (fun (B : Nat) (y : World) (v : Value) (hr : SegR B y v (segL D.fs)) => (show Calls Tryz.prog 52 #[v] y (fun e y' => ∃ v, e = .returned (.tuple #[v, .int .i64 (E : Int), .bool true]) ∧ y'.ownsRow y.heap.size 9 1 v RL.length (encS RL) ∧ Below y.heap.size y y') from (HRD.out B y v hr).mono (by
      rintro e y' ⟨hb, ⟨q, _⟩ | ⟨_, v, rfl, ho⟩⟩
      · exact (hsp q).elim
      · rw [hE, hRL]; exact ⟨v, rfl, ho, hb⟩)))
    have HSP := Lib.hid hsp
    have HEE := Lib.hid (And.intro hE hRL)
    clear hsp hE hRL
    obtain ⟨N, hN⟩ : ∃ N, N = (segL D.fs).length := ⟨_, rfl⟩
    have HNN := Lib.hid hN
    go_enter Tryz.func26, Tryz.ntmps26
    go_upto_region 10 with (first
      | (go_at_call 22; (with_reducible refine HDead.out.mono ?_); rintro e w1 ⟨rfl, rfl⟩)
      | (go_at_call 51; (with_reducible refine HSG.out.mono ?_); rintro e w1 ⟨v, rfl, ho, hb⟩; have HO := Lib.hid (And.intro (seg_row ho) hb); obtain ⟨A, c, rfl⟩ := own_slice_of ho; clear ho hb)
      | (go_at_call 52; (with_reducible refine (HRS.out w.heap.size _ _ (HO.out.1.below ((Below.refl _ _).alloc (Nat.le_refl _) _))).mono ?_); rintro e w3 ⟨vr, rfl, ho, hb⟩; have H3 := Lib.hid (And.intro ho hb); clear ho hb))
    have hbA : Below w.heap.size w (w1.alloc (.cells #[.slice A (segL D.fs).length c] 88)) := HO.out.2.alloc HO.out.2.size _
    have hbB := hbA.trans (H3.out.2.mono hbA.size)
    have hs3 : w1.heap.size + 1 ≤ w3.heap.size := by have := H3.out.2.size; simpa using this
    have hs1 := HO.out.2.size
    have r5 := (H3.out.2.block w1.heap.size (by simp)).trans (heap_alloc_new w1 (.cells #[.slice A (segL D.fs).length c] 88))
    have sr := (HO.out.1.below ((Below.refl _ _).alloc (Nat.le_refl _) (.cells #[.slice A (segL D.fs).length c] 88))).below H3.out.2
    have ow := own_base H3.out.1 hbA.size
    have hb6 : Below w3.heap.size w3 (((w3.alloc (.cells #[.int .i64 (E : Int)] 3)).alloc (.cells #[.pointer (some ⟨p, 0, none⟩)] 93)).alloc (.cells #[.pointer (some ⟨w3.heap.size + 1, 0, none⟩)] 51)) :=
      ((((Below.refl w3.heap.size w3).alloc (Nat.le_refl _) _).alloc (by simp) _).alloc (by simp; omega) _)
    have r7 : (((w3.alloc (.cells #[.int .i64 (E : Int)] 3)).alloc (.cells #[.pointer (some ⟨p, 0, none⟩)] 93)).alloc (.cells #[.pointer (some ⟨w3.heap.size + 1, 0, none⟩)] 51)).heap[w3.heap.size + 0]? = some (.cells #[.int .i64 (E : Int)] 3 (0, 0)) := allocs_at [.cells #[.int .i64 (E : Int)] 3, .cells #[.pointer (some ⟨p, 0, none⟩)] 93, .cells #[.pointer (some ⟨w3.heap.size + 1, 0, none⟩)] 51] w3 0 _ rfl
    have rl : (((w3.alloc (.cells #[.int .i64 (E : Int)] 3)).alloc (.cells #[.pointer (some ⟨p, 0, none⟩)] 93)).alloc (.cells #[.pointer (some ⟨w3.heap.size + 1, 0, none⟩)] 51)).heap[w3.heap.size + 1]? = some (.cells #[.pointer (some ⟨p, 0, none⟩)] 93 (0, 0)) := allocs_at [.cells #[.int .i64 (E : Int)] 3, .cells #[.pointer (some ⟨p, 0, none⟩)] 93, .cells #[.pointer (some ⟨w3.heap.size + 1, 0, none⟩)] 51] w3 1 _ rfl
    have r9 : (((w3.alloc (.cells #[.int .i64 (E : Int)] 3)).alloc (.cells #[.pointer (some ⟨p, 0, none⟩)] 93)).alloc (.cells #[.pointer (some ⟨w3.heap.size + 1, 0, none⟩)] 51)).heap[w3.heap.size + 1 + 1]? = some (.cells #[.pointer (some ⟨w3.heap.size + 1, 0, none⟩)] 51 (0, 0)) := allocs_at [.cells #[.int .i64 (E : Int)] 3, .cells #[.pointer (some ⟨p, 0, none⟩)] 93, .cells #[.pointer (some ⟨w3.heap.size + 1, 0, none⟩)] 51] w3 2 _ rfl
    rw [Nat.add_zero] at r7
    have z6 : (((w3.alloc (.cells #[.int .i64 (E : Int)] 3)).alloc (.cells #[.pointer (some ⟨p, 0, none⟩)] 93)).alloc (.cells #[.pointer (some ⟨w3.heap.size + 1, 0, none⟩)] 51)).heap.size = w3.heap.size + 3 := by simp
    change Code.wp _ _ _ _ (((w3.alloc (.cells #[.int .i64 (E : Int)] 3)).alloc (.cells #[.pointer (some ⟨p, 0, none⟩)] 93)).alloc (.cells #[.pointer (some ⟨w3.heap.size + 1, 0, none⟩)] 51))
    generalize ((w3.alloc (.cells #[.int .i64 (E : Int)] 3)).alloc (.cells #[.pointer (some ⟨p, 0, none⟩)] 93)).alloc (.cells #[.pointer (some ⟨w3.heap.size + 1, 0, none⟩)] 51) = W6 at *
    have r5' := (hb6.block _ (by omega)).trans r5
    have sr' := sr.below hb6
    have ow' := own_stay ow (fun k hk hB hl => hb6.block k hl)
    have bel := hbB.trans (hb6.mono (Nat.le_trans hbA.size H3.out.2.size))
    generalize w3.heap.size = b7 at *
    generalize w1.heap.size = b5 at *
    rw [← hN] at r5' sr' ⊢
    have q5 := cell_of_row _ _ 0 _ _ _ r5'
    rw [show (#[Value.slice A N c] : Array Value)[0]? = some (.slice A N c) from rfl] at q5
    have q9 := cell_of_row _ _ 0 _ _ _ r9
    rw [show (#[Value.pointer (some ⟨b7 + 1, 0, none⟩)] : Array Value)[0]? = some (.pointer (some ⟨b7 + 1, 0, none⟩)) from rfl] at q9
    have HW := Lib.hid (And.intro r5' (And.intro sr' (And.intro ow' (And.intro bel (And.intro r7 (And.intro rl (And.intro r9 (And.intro z6 (And.intro hs3 hs1)))))))))
    have hL0 : ∀ (W : World), Below W6.heap.size W6 W → LoR (b7 + 1) p bb L D W W := fun W hW => by
      obtain ⟨B, hB1, hB2, hB3⟩ := H.out.2.2.2.1
      have hbw := bel.trans (hW.mono bel.size)
      obtain ⟨L1, hd1, hl1⟩ := H.out.1.trim
      refine ⟨(hW.block _ (Array.getElem?_eq_some_iff.1 rl).1).trans rl, ⟨L1, n, C, hd1.keep (fun g hg => hbw.block g (hl1 g hg).2), fun g hg => ⟨Nat.lt_of_lt_of_le (hl1 g hg).2 hbw.size, .inl (hl1 g hg).1⟩, fun hg => by have := (hl1 _ hg).2; omega⟩, Turns.refl _ _, ⟨B, hB1.on (hbw.mono hB2), Nat.le_trans hB2 hbw.size, hB3⟩⟩
    have HL0 := Lib.hid hL0
    clear hbA hbB hs3 hs1 r5 sr ow hb6 r7 rl r9 z6 r5' sr' ow' bel hL0 hN
    cases hl : lastS D with
    | none =>
      have hs : segL D.fs = [] := List.getLast?_eq_none_iff.1 hl
      have HF := Lib.hid (show LopenR p bb L D w (.returned (.tuple #[.pointer (some ⟨b7 + 1, 0, none⟩), vr, .int .i64 0])) W6 from by
        refine .inr ⟨HSP.out, _, _, W6, rfl, HW.out.2.2.2.1, ?_, by have := HW.out.2.2.2.2.2.2.2.2; omega, (Array.getElem?_eq_some_iff.1 HW.out.2.2.2.2.2.1).1, by rw [← HEE.out.2]; exact HW.out.2.2.1⟩
        rw [show lopenD D = (D, 0) by unfold lopenD; rw [hl]]
        exact HL0.out W6 (Below.refl _ _))
      have hn0 : N = 0 := by rw [HNN.out, hs]; rfl
      clear hl hs
      subst hn0
      go_wp2_with fail
      go_ret3
      exact HF.out
    | some x =>
      obtain ⟨M, hM, hxs, hxm⟩ := last_at hl
      have hnl := seg_nm hxm
      have hNM : N = M + 1 := by rw [HNN.out]; exact hM
      have hN6 : N ≤ 100000 := by rw [HNN.out]; exact Nat.le_trans (segL_len D.fs) H.out.2.2.1
      obtain ⟨nb, hnb⟩ : ∃ nb : ByteArray, nb = ⟨x.2.nm.toArray⟩ := ⟨_, rfl⟩
      have hnbs : nb.size ≤ maxLen := by rw [hnb]; show x.2.nm.toArray.size ≤ _; rw [List.size_toArray, hnl]; decide
      have hnbd : nb.data.toList = x.2.nm := by rw [hnb]
      obtain ⟨A', c', hv, Y, hY1, hY2⟩ := HW.out.2.1
      injection hv with e1 e2 e3
      subst e1 e3
      obtain ⟨gk, rfl, hck⟩ := hY2 M x hxs
      have hcq : (cutD D x.2.nm (E : Int)).2 = 0 ∧ lopenD D = lsyncD (cutD D x.2.nm (E : Int)).1 := by
        have hok := H.out.2.2.2.2 HSP.out
        unfold lopenD at hok ⊢
        rw [hl] at hok ⊢
        dsimp only at hok ⊢
        rw [← HEE.out.1] at hok ⊢
        by_cases hq : (cutD D x.2.nm (E : Int)).2 = 0
        · exact ⟨hq, by rw [if_neg (fun h => h hq)]⟩
        · rw [if_pos hq] at hok
          exact (hq hok).elim
      have hEl : E ≤ 1000000000 := by
        rw [HEE.out.1]
        unfold endL
        rw [show (segL D.fs).getLast? = some x from hl]
        have h1 := splD_le x.2.by_
        have h2 := totS_mem hxm
        have h3 := totS_seg D.fs
        have h4 := H.out.1.sum
        show (splD x.2.by_).2.1 ≤ _
        omega
      have HST := Lib.hid (show Calls Tryz.prog 53 #[.slice (some ⟨W6.heap.size, 0, none⟩) 2 2] (W6.alloc (.cells #[.func (.func 54) #[] #[.pointer (some ⟨b7 + 1 + 1, 0, none⟩), .pointer (some ⟨b5, 0, none⟩), .pointer (some ⟨b7, 0, none⟩)], .func (.func 28) #[.pointer (some ⟨b7 + 1, 0, none⟩)] #[]] 47)) (fun e y' => e = .returned (.int .i64 0) ∧ LoR (b7 + 1) p bb L (lopenD D).1 (W6.alloc (.cells #[.func (.func 54) #[] #[.pointer (some ⟨b7 + 1 + 1, 0, none⟩), .pointer (some ⟨b5, 0, none⟩), .pointer (some ⟨b7, 0, none⟩)], .func (.func 28) #[.pointer (some ⟨b7 + 1, 0, none⟩)] #[]] 47)) y') from by
        have hcs := two_cells W6 (.func (.func 54) #[] #[.pointer (some ⟨b7 + 1 + 1, 0, none⟩), .pointer (some ⟨b5, 0, none⟩), .pointer (some ⟨b7, 0, none⟩)]) (.func (.func 28) #[.pointer (some ⟨b7 + 1, 0, none⟩)] #[]) 47
        have hb7 := (Below.refl W6.heap.size W6).alloc (Nat.le_refl _) (.cells #[.func (.func 54) #[] #[.pointer (some ⟨b7 + 1 + 1, 0, none⟩), .pointer (some ⟨b5, 0, none⟩), .pointer (some ⟨b7, 0, none⟩)], .func (.func 28) #[.pointer (some ⟨b7 + 1, 0, none⟩)] #[]] 47)
        have hz7 : W6.heap.size < (W6.alloc (.cells #[.func (.func 54) #[] #[.pointer (some ⟨b7 + 1 + 1, 0, none⟩), .pointer (some ⟨b5, 0, none⟩), .pointer (some ⟨b7, 0, none⟩)], .func (.func 28) #[.pointer (some ⟨b7 + 1, 0, none⟩)] #[]] 47)).heap.size := by simp
        generalize W6.alloc (.cells #[.func (.func 54) #[] #[.pointer (some ⟨b7 + 1 + 1, 0, none⟩), .pointer (some ⟨b5, 0, none⟩), .pointer (some ⟨b7, 0, none⟩)], .func (.func 28) #[.pointer (some ⟨b7 + 1, 0, none⟩)] #[]] 47) = W7 at *
        obtain ⟨_, _, _, hbel, r7, rl, r9, z6, hs3, hs1⟩ := HW.out
        have r5 := HW.out.1
        have hLw := H.out.2.1
        have kp : ∀ (y z : World), Turns L W7 y → Below y.heap.size y z → ∀ g o, w.heap.size ≤ g → W6.heap[g]? = some o → z.heap[g]? = some o := fun y z ht hz g o hg ho => by
          have h1 := (hb7.block g (Array.getElem?_eq_some_iff.1 ho).1).trans ho
          have h2 := (ht.block g (Array.getElem?_eq_some_iff.1 h1).1 (fun q => by have := hLw g q; omega)).trans h1
          exact (hz.block g (Array.getElem?_eq_some_iff.1 h2).1).trans h2
        refine (steps_any W6.heap.size 2 2 [(54, #[], #[.pointer (some ⟨b7 + 1 + 1, 0, none⟩), .pointer (some ⟨b5, 0, none⟩), .pointer (some ⟨b7, 0, none⟩)]), (28, #[.pointer (some ⟨b7 + 1, 0, none⟩)], #[])] rfl (by decide)
          (fun i y => match i with | 0 => LoR (b7 + 1) p bb L D W7 y | 1 => LoR (b7 + 1) p bb L (cutD D x.2.nm (E : Int)).1 W7 y | _ => LoR (b7 + 1) p bb L (lopenD D).1 W7 y) (fun _ _ => False) W7 (HL0.out W7 hb7) ?_ ?_ ?_).mono ?_
        · intro f hf xs y
          rcases List.mem_cons.1 hf with rfl | hf
          · exact enters_of Tryz.func54 (by kernel_rfl) rfl xs y
          · rw [List.mem_singleton.1 hf]
            exact enters_of Tryz.func28 (by kernel_rfl) rfl xs y
        · intro i f y hf hI
          have tt : Turns L W7 y := by
            match i, hI with
            | 0, hI => exact hI.t
            | 1, hI => exact hI.t
            | n + 2, hI => exact hI.t
          have cc : ∀ j, y.cell? ⟨W6.heap.size, j, none⟩ = W7.cell? ⟨W6.heap.size, j, none⟩ := fun j => World.cell?_of_block (tt.block _ hz7 (fun q => by have h1 : W6.heap.size < w.heap.size := hLw _ q; have := hbel.size; omega))
          match i, hf with
          | 0, hf => cases hf; exact (cc 0).trans hcs.1
          | 1, hf => cases hf; exact (cc 1).trans hcs.2
          | n + 2, hf => simp at hf
        · intro i f y hf hI
          match i, hf, hI with
          | 0, hf, hI =>
            cases hf
            have hI : LoR (b7 + 1) p bb L D W7 y := hI
            refine (lopen1_any hI (b7 + 1 + 1) b5 b7 gk N M E c nb hNM (by omega) hEl hnbs (fun z hz => ?_)).mono ?_
            · refine ⟨cell_of_row _ _ 0 _ _ _ (kp y z hI.t hz _ _ (by omega) r9), cell_of_row _ _ 0 _ _ _ (kp y z hI.t hz _ _ (by omega) r5), cell_of_row _ _ 0 _ _ _ (kp y z hI.t hz _ _ (by omega) r7), ?_⟩
              rw [hnb]
              exact (hck z (fun r o hr ho => kp y z hI.t hz r o (hY1 r hr).1 ho)).2.1
            · rintro e y' ⟨rfl, hq⟩
              rw [hnbd] at hq ⊢
              refine ⟨_, rfl, .inl ⟨by rw [hcq.1]; rfl, hq⟩⟩
          | 1, hf, hI =>
            cases hf
            have hI : LoR (b7 + 1) p bb L (cutD D x.2.nm (E : Int)).1 W7 y := hI
            refine (lsync_any hI (by rw [cutD_len H.out.1.ris]; have := H.out.2.2.1; omega)).mono ?_
            rintro e y' ⟨rfl, hq⟩
            rw [← hcq.2, H.out.2.2.2.2 HSP.out] at *
            exact ⟨_, rfl, .inl ⟨rfl, hq⟩⟩
          | n + 2, hf, _ => simp at hf
        · rintro e y' ⟨k, rfl, ⟨rfl, hI⟩ | ⟨_, q⟩⟩
          · exact ⟨rfl, hI⟩
          · exact q.elim)
      have hN0 : 0 < N := by omega
      clear hl hM hxs hxm hnl hnb hnbs hnbd e2 hY1 hY2 hck hcq hEl
      have HNM := Lib.hid hNM
      clear hNM
      go_wp2_with (go_at_call 53; (with_reducible refine HST.out.mono ?_); rintro e w9 ⟨rfl, hz⟩
                   have hb7 := (Below.refl W6.heap.size W6).alloc (Nat.le_refl _) (.cells #[.func (.func 54) #[] #[.pointer (some ⟨b7 + 1 + 1, 0, none⟩), .pointer (some ⟨b5, 0, none⟩), .pointer (some ⟨b7, 0, none⟩)], .func (.func 28) #[.pointer (some ⟨b7 + 1, 0, none⟩)] #[]] 47)
                   have kp : ∀ g o, w.heap.size ≤ g → W6.heap[g]? = some o → w9.heap[g]? = some o := fun g o hg ho => by
                     have h1 := (hb7.block g (Array.getElem?_eq_some_iff.1 ho).1).trans ho
                     exact (hz.t.block g (Array.getElem?_eq_some_iff.1 h1).1 (fun q => by have := H.out.2.1 g q; omega)).trans h1
                   have q10 := cell_of_row _ _ 0 _ _ _ (kp _ _ (by have := HW.out.2.2.2.2.2.2.2.2; omega) HW.out.2.2.2.2.2.2.1)
                   rw [show (#[Value.pointer (some ⟨b7 + 1, 0, none⟩)] : Array Value)[0]? = some (.pointer (some ⟨b7 + 1, 0, none⟩)) from rfl] at q10
                   have H9 := Lib.hid (And.intro hz (And.intro (HW.out.2.2.2.1.trans (hb7.mono HW.out.2.2.2.1.size)) (And.intro (own_stay HW.out.2.2.1 (fun k hk hB hl => hb7.block k hl)) (Nat.lt_of_lt_of_le (Array.getElem?_eq_some_iff.1 HW.out.2.2.2.2.2.1).1 hb7.size))))
                   clear hz hb7 kp)
      go_ret3
      exact .inr ⟨HSP.out, _, _, _, rfl, H9.out.2.1, H9.out.1, by have := HW.out.2.2.2.2.2.2.2.2; omega, H9.out.2.2.2, by rw [← HEE.out.2]; exact H9.out.2.2.1⟩
end Go.Proofs.YtogfladmgbldcaaGreatDoor
namespace Go.Proofs.YtogfladmgbldcaaGreatDoor
open Go.RowKit Go.Shelf
theorem sname_itoa {n : Nat} (h1 : 1 ≤ n) (h2 : n ≤ 210) : (Lib.itoa (n : Int)).length ≤ 8 := by
  have h := sname_len h1 h2
  unfold sname at h
  rw [List.length_cons, List.length_append, List.length_replicate] at h
  omega
theorem LoR.re {l p bb : Nat} {L : List Nat} {D : DskV} {w y : World} (h : LoR l p bb L D w y) : ∃ L1, LoR l p bb L1 D y y ∧ (∀ g ∈ L1, g < y.heap.size) ∧ ∀ D' y', LoR l p bb L1 D' y y' → LoR l p bb L D' w y' := by
  obtain ⟨L1, n, C, h1, h2, h3⟩ := h.dsk
  obtain ⟨B, f1, f2, f3⟩ := h.far
  have hbel : Below B w y := h.t.below (Below.refl _ _) f2 f3
  refine ⟨L1, ⟨h.log, ⟨L1, n, C, h1, fun g hg => ⟨(h2 g hg).1, .inl hg⟩, h3⟩, Turns.refl _ _, ⟨B, f1.on hbel, Nat.le_trans f2 h.t.size, fun g hg => ?_⟩⟩, fun g hg => (h2 g hg).1, fun D' y' h' => ?_⟩
  · rcases (h2 g hg).2 with q | q
    · exact f3 g q
    · omega
  · obtain ⟨L2, n', C', k1, k2, k3⟩ := h'.dsk
    refine ⟨h'.log, ⟨L2, n', C', k1, fun g hg => ⟨(k2 g hg).1, ?_⟩, k3⟩, ⟨h'.t.os.trans h.t.os, h'.t.tape.trans h.t.tape, h'.t.out.trans h.t.out, Nat.le_trans h.t.size h'.t.size, fun g hg hn => (h'.t.block g (Nat.lt_of_lt_of_le hg h.t.size) (fun q => ?_)).trans (h.t.block g hg hn)⟩, h.far⟩
    · rcases (k2 g hg).2 with q | q
      · exact (h2 g q).2
      · exact .inr (Nat.le_trans h.t.size q)
    · rcases (h2 g q).2 with q2 | q2
      · exact hn q2
      · omega
/-- A log at another world, all of whose blocks lie below it. -/
theorem LoR.at {l p bb : Nat} {L : List Nat} {D : DskV} {y W : World} (h : LoR l p bb L D y y) (_ : ∀ g ∈ L, g < y.heap.size) (hb : Below y.heap.size y W) : LoR l p bb L D W W := by
  obtain ⟨L1, n, C, h1, h2, h3⟩ := h.dsk
  obtain ⟨B, f1, f2, f3⟩ := h.far
  have hw := h.below hb
  obtain ⟨L2, n2, C2, k1, k2, k3⟩ := hw.dsk
  have e : ∀ g ∈ L1, g ∈ L := fun g hg => by
    rcases (h2 g hg).2 with q | q
    · exact q
    · have := (h2 g hg).1; omega
  exact ⟨hw.log, ⟨L1, n, C, h1.keep (fun g hg => hb.block g (h2 g hg).1), fun g hg => ⟨Nat.lt_of_lt_of_le (h2 g hg).1 hb.size, .inl (e g hg)⟩, h3⟩, Turns.refl _ _, ⟨B, f1.on (hb.mono f2), Nat.le_trans f2 hb.size, f3⟩⟩
set_option maxRecDepth 100000 in
set_option maxHeartbeats 4000000 in
theorem ladd1_any {l p bb : Nat} {L : List Nat} {D : DskV} {w y : World} (h : LoR l p bb L D w y) (g8 b2 b5 n : Nat) (vb : Value) (F : Bs) (hn : n ≤ 208) (hF : F.length ≤ 10000000)
    (HC : ∀ z, Below y.heap.size y z → z.cell? ⟨g8, 0, none⟩ = some (.int .i64 (n : Int)) ∧ z.cell? ⟨b2, 0, none⟩ = some (.pointer (some ⟨l, 0, none⟩)) ∧ z.cell? ⟨b5, 0, none⟩ = some vb ∧ ReadB z vb F) :
    Calls Tryz.prog 57 #[.pointer (some ⟨g8, 0, none⟩), .pointer (some ⟨b2, 0, none⟩), .pointer (some ⟨b5, 0, none⟩)] y fun e y' => e = .returned (.int .i64 ((appD D (sname (n + 1)) F).2 : Int)) ∧ LoR l p bb L (appD D (sname (n + 1)) F).1 w y' := by
  have hc0 := (HC y (Below.refl _ _)).1
  obtain ⟨fb, hfb⟩ : ∃ fb : ByteArray, fb = ⟨F.toArray⟩ := ⟨_, rfl⟩
  have HFB := Lib.hid (And.intro hfb (show fb.data.toList = F from by rw [hfb]))
  obtain ⟨nb, hnb⟩ : ∃ nb : ByteArray, nb = ⟨(sname (n + 1)).toArray⟩ := ⟨_, rfl⟩
  have hnl : (sname (n + 1)).length = 9 := sname_len (by omega) (by omega)
  obtain ⟨R, hR⟩ : ∃ R, R = appD D (sname (n + 1)) F := ⟨_, rfl⟩
  rw [← hR]
  have HCK := Lib.hid (fun (z : World) (hz : Below y.heap.size y z) => And.intro (h.below hz).cell (And.intro (HC z hz) (HC z hz).2.2.2))
  have HNM := Lib.hid (fun (z : World) (hz : Below y.heap.size y z) => (show Calls Tryz.prog 56 #[.int .i64 ((n : Int) + 1)] z (fun e w' => e = .returned (.string nb) ∧ Below z.heap.size z w') from by
    rw [hnb, show (n : Int) + 1 = ((n + 1 : Nat) : Int) by omega]
    exact lname_any (n + 1) (by omega) (sname_itoa (by omega) (by omega)) z (h.below hz).pv))
  have HAC := Lib.hid (fun (z : World) (hz : Below y.heap.size y z) => (show Calls Tryz.prog 18 #[.pointer (some ⟨p, 0, none⟩), .string nb, .string fb] z (fun e w' => e = .returned (.int .i64 (R.2 : Int)) ∧ LoR l p bb L R.1 w w') from by
    have h2 := (h.below hz).act (R := appD D nb.data.toList fb.data.toList) (f := 18) (args := #[.pointer (some ⟨p, 0, none⟩), .string nb, .string fb]) (fun n C L1 hd hlt => append_any nb fb (by rw [hnb]; show (sname _).toArray.size ≤ _; rw [List.size_toArray, hnl]; decide) (by rw [hfb]; show F.toArray.size ≤ _; rw [List.size_toArray]; unfold maxLen; omega) z hd hlt)
    rw [show nb.data.toList = sname (n + 1) from by rw [hnb], HFB.out.2, ← hR] at h2
    exact h2))
  have hne : ((n : Int) == 99999999) = false := by rw [beq_eq_false_iff_ne]; omega
  have hw1 : IntKind.i64.wrap ((n : Int) + 1) = (n : Int) + 1 := IntWalk.i64_in _ (by omega)
  clear hn hF HC h hfb hnb hnl hR
  go_enter Tryz.func57, Tryz.ntmps57
  go_upto_region 3 with fail
  refine (wpIn_wide (n := 1)).1 ?_
  refine RegK.wpIn_region_can (F := Fence.wide) (KeptW y) [(0, 0), (1, 0), (2, 0), (3, 0), (4, 0), (5, 0), (6, 0), (8, 0), (9, 0), (7, 1), (10, 3), (11, 0)] (by kernel_rfl) (by kernel_rfl) (by kernel_rfl) (fun _ _ d _ _ h => by cases d <;> exact h) ⟨rfl, rfl, rfl, Nat.le_refl _, fun _ _ => rfl⟩ ?_
  dsimp only [RegK.pick, List.getElem?_cons_zero, List.getElem?_cons_succ]
  change RegK.Can _ _ _ _ _ _ _ _ y.drew
  have hkd : KeptW y y.drew := ⟨rfl, rfl, rfl, Nat.le_refl _, fun _ _ => rfl⟩
  generalize y.drew = v8 at *
  refine RegK.can_reads ?_
  intro K hK
  go_simp
  refine ⟨.pointer (some ⟨l, 0, none⟩), fun q hy => ?_, hK _ ?_⟩
  · have c0 := (HCK.out _ (KeptW.bel hy)).2.1.2.1
    go_simp
  clear hK K
  iterate 2 (refine RegK.can_reads ?_; intro K hK; go_simp; (first | refine ⟨_, fun _ _ => rfl, hK _ ?_⟩ | refine hK _ ?_); clear hK K)
  refine RegK.can_reads ?_
  intro K hK
  go_simp
  refine ⟨.pointer (some ⟨p, 0, none⟩), fun q hy => ?_, hK _ ?_⟩
  · have c0 := (HCK.out _ (KeptW.bel hy)).1
    go_simp
  clear hK K
  refine RegK.can_reads ?_; intro K hK; go_simp; (first | refine ⟨_, fun _ _ => rfl, hK _ ?_⟩ | refine hK _ ?_); clear hK K
  refine RegK.can_reads ?_
  intro K hK
  go_simp
  refine ⟨.int .i64 (n : Int), fun q hy => ?_, hK _ ?_⟩
  · have c0 := (HCK.out _ (KeptW.bel hy)).2.1.1
    go_simp
  clear hK K
  refine RegK.can_reads ?_; intro K hK; go_simp; (first | refine ⟨_, fun _ _ => rfl, hK _ ?_⟩ | refine hK _ ?_); clear hK K
  refine RegK.can_reads ?_
  intro K hK
  go_simp
  refine ⟨vb, fun q hy => ?_, hK _ ?_⟩
  · have c0 := (HCK.out _ (KeptW.bel hy)).2.1.2.2.1
    go_simp
  clear hK K
  refine RegK.can_reads ?_
  intro K hK
  go_simp
  refine ⟨.string fb, fun q hy => ?_, hK _ ?_⟩
  · have hcv := ((HCK.out q (KeptW.bel hy)).2.2.conv (P := Tryz.prog) (src := 42) (dst := 9) (e := 5) Tryz.underlying42 Tryz.underlying5 Tryz.underlying9); rw [← HFB.out.1] at hcv
    go_simp
  clear hK K
  refine RegK.can_turns (fun _ => trivial) ?_
  intro K K0 hK hK0
  go_simp
  refine ⟨trivial, ?_⟩
  refine (callsIn_wide.2 (HNM.out v8 (KeptW.bel hkd))).mono ?_
  rintro e v2 ⟨rfl, hb7⟩
  have v2k : KeptW y v2 := KeptW.mono hkd hb7
  refine hK _ _ v2k ?_
  clear hK K hK0 K0
  refine RegK.can_frees (fun _ => trivial) ?_
  intro K K0 hK hK0
  go_simp
  refine ⟨trivial, ?_⟩
  refine (callsIn_wide.2 (HAC.out v2 (KeptW.bel v2k))).mono ?_
  rintro e w9 ⟨rfl, hz9⟩
  refine hK (fun _ => True) _ _ trivial ?_
  clear hK K hK0 K0
  refine RegK.can_reads ?_; intro K hK; go_simp; (first | refine ⟨_, fun _ _ => rfl, hK _ ?_⟩ | refine hK _ ?_); clear hK K
  refine RegK.can_nil ?_
  have HZ := Lib.hid hz9
  clear hz9
  go_wp2
  go_ret
  exact ⟨rfl, HZ.out⟩
end Go.Proofs.YtogfladmgbldcaaGreatDoor
