/- Disk: Files. Condition: as each theorem says. -/
import Derived.Test.YtogfladmgbldcaaGreatDoorZLogNil6
import Derived.Test.YtogfladmgbldcaaGreatDoorZLogNil1
import Derived.Test.YtogfladmgbldcaaGreatDoorZLogNil2
import Derived.IntWalk
import Derived.Lib.Walk
import Derived.BigGuard
import Derived.Test.YtogfladmgbldcaaGreatDoorZLogNil3
import Derived.OwnWalkIn
import Derived.Laws.OwnMore
import Derived.Lib.ParseIntBCases
namespace Go.Proofs.YtogfladmgbldcaaGreatDoor
open Go.RowKit Go.Shelf
attribute [local go_sem] Oper.semAt_some
def filE (f : FilV) : List Value := filR ⟨f.nm.toArray⟩ ⟨f.by_.toArray⟩ (f.sy : Int)
theorem filE_len (f : FilV) : (filE f).length = 3 := rfl
theorem filE_one (f : FilV) : ∀ u ∈ filE f, u.oneCell' = true := by
  intro u hu
  simp [filE, filR] at hu
  rcases hu with rfl | rfl | rfl <;> rfl
theorem infoFil : (Tryz.prog.info? 35).map (fun i => (i.zero, i.size, i.bytes)) = some (some (.agg #[.string ⟨#[]⟩, .string ⟨#[]⟩, .int .i64 0]), 3, 40) := by kernel_rfl
theorem own_stay {w w' : World} {base : Nat} {e : TypeId} {size : Nat} {v : Value} {n : Nat} {xs : List Value} (h : w.ownsRow base e size v n xs) (hk : ∀ k, v.ownBlock = some k → base ≤ k → k < w.heap.size → w'.heap[k]? = w.heap[k]?) : w'.ownsRow base e size v n xs := by
  refine ⟨h.1, ?_⟩
  rcases h.2 with q | ⟨g, cap, cur, rfl, hb, hg, r⟩
  · exact .inl q
  · exact .inr ⟨g, cap, cur, rfl, hb, (hk g rfl hb (Array.getElem?_eq_some_iff.1 hg).1).trans hg, r⟩
theorem own_base {w : World} {base base' : Nat} {e : TypeId} {size : Nat} {v : Value} {n : Nat} {xs : List Value} (h : w.ownsRow base e size v n xs) (hb : base' ≤ base) : w.ownsRow base' e size v n xs := by
  refine ⟨h.1, ?_⟩
  rcases h.2 with q | ⟨g, cap, cur, rfl, hb2, r⟩
  · exact .inl q
  · exact .inr ⟨g, cap, cur, rfl, Nat.le_trans hb hb2, r⟩
theorem own_at {w : World} {base : Nat} {e : TypeId} {size : Nat} {v : Value} {n : Nat} {xs : List Value} (h : w.ownsRow base e size v n xs) {k : Nat} (hk : v.ownBlock = some k) : base ≤ k ∧ k < w.heap.size := by
  rcases h.2 with ⟨rfl, _⟩ | ⟨g, cap, cur, rfl, hb, hg, _⟩
  · cases hk
  · cases hk
    exact ⟨hb, (Array.getElem?_eq_some_iff.1 hg).1⟩
theorem cells_newF (w : World) (cs : List Value) (t : TypeId) : ∀ j u, cs[j]? = some u → (w.alloc (.cells cs.toArray t)).cell? ((⟨w.heap.size, 0, none⟩ : Addr).add j) = some u := by
  intro j u hj
  rw [WideShapes.add_plain]
  show (w.alloc (.cells cs.toArray t)).cell? ⟨w.heap.size, 0 + j, none⟩ = _
  rw [World.cell?_alloc_new]
  simpa using hj
/-- Files, between its rounds. -/
structure FilI (p : Nat) (w : World) (Y : Nat → Prop) (pre : List FilV) (y : World) (v : Value) (B : Nat) : Prop where
  box : y.heap[w.heap.size]? = some (.cells #[v] 39 (0, 0))
  own : y.ownsRow B 35 3 v pre.length (flat filE pre)
  far : w.heap.size + 2 ≤ B ∧ (v = .slice none 0 0 ∧ pre = [] ∨ ∀ r, Y r → r < B)
  srt : y.heap[w.heap.size + 1]? = some (.cells #[.pointer (some ⟨p, 0, none⟩)] 32 (0, 0))
  bel : Below w.heap.size w y
theorem FilI.turn {p : Nat} {w w2 : World} {Y : Nat → Prop} {pre : List FilV} {y : World} {v : Value} {B : Nat} (h : FilI p w Y pre y v B) (hw : w.heap.size + 2 ≤ w2.heap.size) (hY : NewY Y w2) {y' : World} {row : Option Nat} (hg : y.grownBy y' row) (hr : ∀ r, row = some r → Y r) : FilI p w Y pre y' v B := by
  have hz : ∀ r, row = some r → w.heap.size + 2 ≤ r := fun r e => Nat.le_trans hw (hY r (hr r e))
  refine ⟨(hg.block _ (Array.getElem?_eq_some_iff.1 h.box).1 (fun e => by have := hz _ e.symm; omega)).trans h.box, own_stay h.own (fun k hk hB hl => hg.block k hl (fun e => ?_)), h.far, (hg.block _ (Array.getElem?_eq_some_iff.1 h.srt).1 (fun e => by have := hz _ e.symm; omega)).trans h.srt,
    below_grown hg h.bel h.bel.size (fun k e => by have := hz k e; omega)⟩
  rcases h.far.2 with ⟨rfl, _⟩ | q
  · cases hk
  · have := q k (hr k e.symm)
    omega
/-- A file is put behind the others. -/
theorem FilI.next {p : Nat} {w w2 : World} {Y : Nat → Prop} {pre : List FilV} {f : FilV} {W v2 w4 : World} {v v4 : Value} {B : Nat} (h : FilI p w Y pre W v B) (hw : w.heap.size + 2 ≤ w2.heap.size) (hY : NewY Y w2) (hYl : ∀ r, Y r → r < B)
    (hk : KeptW W v2) (ho : w4.ownsRow B 35 3 v4 (pre.length + 1) (flat filE pre ++ filE f)) (hg : v2.grownBy w4 v.ownBlock) : KeptZ Y W (w4.setCell ⟨w.heap.size, 0, none⟩ v4) ∧ FilI p w Y (pre ++ [f]) (w4.setCell ⟨w.heap.size, 0, none⟩ v4) v4 B := by
  have hb2 := KeptW.bel hk
  have hf := h.far.1
  have hvb : ∀ k, v.ownBlock = some k → B ≤ k := fun k e => (own_at h.own e).1
  have hbl : ∀ k, k < W.heap.size → k < B → w4.heap[k]? = W.heap[k]? := fun k hl hB => (hg.block k (Nat.lt_of_lt_of_le hl hb2.size) (fun e => by have := hvb k e.symm; omega)).trans (hb2.block k hl)
  have hset : ∀ k, k ≠ w.heap.size → (w4.setCell ⟨w.heap.size, 0, none⟩ v4).heap[k]? = w4.heap[k]? := fun k hk => setC_other hk
  have hbox := (hbl _ (Array.getElem?_eq_some_iff.1 h.box).1 (by omega)).trans h.box
  have hb4 : Below w.heap.size w w4 := below_grown hg (h.bel.trans (hb2.mono h.bel.size)) (Nat.le_trans h.bel.size hb2.size) (fun k e => by have := hvb k e; omega)
  refine ⟨fun r o hr ho2 => (hset r (by have := hY r hr; omega)).trans ((hbl r (Array.getElem?_eq_some_iff.1 ho2).1 (hYl r hr)).trans ho2), ?_, ?_, ⟨hf, .inr hYl⟩, (hset _ (by omega)).trans ((hbl _ (Array.getElem?_eq_some_iff.1 h.srt).1 (by omega)).trans h.srt), hb4.setCell (p := ⟨w.heap.size, 0, none⟩) (Nat.le_refl _) v4⟩
  · exact heap_setCell_same w4 w.heap.size 0 #[v] _ v4 hbox
  · rw [List.length_append, List.length_singleton, flat_app, show flat filE [f] = filE f by simp [flat]]
    exact own_stay ho (fun k hk hB _ => hset k (by omega))
set_option maxRecDepth 100000 in
set_option maxHeartbeats 4000000 in
theorem files_in (p b n : Nat) (C : Bs → Nat) (L : List Nat) (D : DskV) (hlen : D.fs.length ≤ 1000000) (w : World) (h : DskAt w p b n C L D) :
    CallsIn Fence.wide 9 Tryz.prog 19 #[.pointer (some ⟨p, 0, none⟩)] w fun e w' => ∃ v, e = .returned v ∧ w'.ownsRow w.heap.size 35 3 v D.fs.length (flat filE D.fs) ∧ Below w.heap.size w w' := by
  have H := Lib.hid h
  clear h
  refine callsIn_of_wp_marks Tryz.func19 rfl trivial ?_ rfl
  simp only [Tryz.ntmps19, List.size_toArray, List.length_cons, List.length_nil, Nat.reduceAdd, Nat.reduceSub, Array.replicate_succ, Array.replicate_zero, List.push_toArray, List.append_toArray, List.nil_append, List.cons_append]
  gi_wp2_with (first
    | (refine ⟨trivial, ?_⟩; refine (callsIn_wide.2 (sorted_any p _)).mono ?_; rintro e w2 ⟨rfl, hbx, hb2⟩; dsimp only)
    | gi_in)
  have e1 : (w.alloc (.cells #[.slice none 0 0] 39)).heap.size = w.heap.size + 1 := World.size_alloc _ _
  rw [e1] at hbx hb2 ⊢
  have b1 := (Below.refl _ w).alloc (Nat.le_refl _) (.cells #[.slice none 0 0] 39)
  have r1 := (hb2.block w.heap.size (by omega)).trans (heap_alloc_new w (.cells #[.slice none 0 0] 39))
  have bA := b1.trans (hb2.mono (by omega))
  have hz2 : w.heap.size + 2 ≤ w2.heap.size := (Array.getElem?_eq_some_iff.1 hbx).1
  have HI0 := Lib.hid (fun (Y : Nat → Prop) => show FilI p w Y [] w2 (.slice none 0 0) (w.heap.size + 2) from ⟨r1, World.ownsRow_nil _ _ _ _, ⟨Nat.le_refl _, .inl ⟨rfl, rfl⟩⟩, hbx, bA⟩)
  have hD2 := H.out.below bA
  have HZ := Lib.hid hz2
  clear b1 r1 hb2 e1 bA
  refine wpIn_rangeY rfl (by decide) (gf := 72) (lb := #[.pointer (some ⟨w.heap.size + 1, 0, none⟩)]) rfl trivial (enters_of Tryz.func72 (by kernel_rfl) rfl)
    (sorted_stops _ (w.heap.size + 1) p b n C L D hlen w2 hD2 hbx) (Below.refl _ _) (fun _ => rfl)
    (fun Y pre W' => ∃ v B, FilI p w Y pre W' v B) (fun _ _ _ _ => False)
    (fun Y hY s A B row hs hg hr => ?hI) (fun _ _ _ _ _ _ _ h _ _ => h) (fun Y pre W' hI => ?hRd) (fun Y _ => ⟨_, _, HI0.out Y⟩)
    (fun f => { tmps := #[.pointer (some ⟨p, 0, none⟩), undef, .slice none 0 0, .pointer (some ⟨w.heap.size, 0, none⟩), .string ⟨f.nm.toArray⟩, .pointer (some ⟨C f.nm, 0, none⟩), .pointer (some ⟨p, 0, none⟩), .bool false, .pointer (some ⟨p, 0, none⟩), .func (.func 72) #[] #[.pointer (some ⟨w.heap.size + 1, 0, none⟩)], .string ⟨f.nm.toArray⟩, .pointer (some ⟨C f.nm, 0, none⟩), undef, undef, undef, undef, undef, undef, undef, undef, undef, undef, undef, undef, undef, undef], defers := [] }) ?assign ?body ?done ?stop
  case hI =>
    obtain ⟨v, B, hs⟩ := hs
    exact ⟨v, B, hs.turn HZ.out hY hg hr⟩
  case hRd =>
    obtain ⟨v, B, hI⟩ := hI
    have hd := H.out.below hI.bel
    exact ⟨hI.srt, hd.cells.1, hd.m⟩
  case assign =>
    intro l' f W' K hK
    simp only [encF]
    gi_wp2
    exact hK
  case body =>
    rintro l' Y pre f W hY hYl ⟨v, B, hI⟩ hSp
    obtain ⟨iF, hiF, hzF, hsF, hbF⟩ := info_parts infoFil
    have hd := H.out.below hI.bel
    have hfm : f ∈ D.fs := hSp.subset (by simp)
    have hpl : pre.length + 1 ≤ 1000000 := by
      obtain ⟨c, hc⟩ := hSp
      rw [← hc] at hlen
      simp at hlen
      omega
    have hfc := hd.c f hfm
    obtain ⟨B', hB', hBW, hI'⟩ : ∃ B', (∀ r, Y r → r < B') ∧ B' ≤ W.heap.size ∧ FilI p w Y pre W v B' := by
      rcases hI.own.2 with ⟨rfl, h0⟩ | ⟨g, cap, cur, rfl, hb, hg, _⟩
      · have hp0 : pre = [] := List.length_eq_zero_iff.1 h0
        subst hp0
        exact ⟨W.heap.size, hYl, Nat.le_refl _, hI.box, World.ownsRow_nil _ _ _ _, ⟨(Array.getElem?_eq_some_iff.1 hI.srt).1, .inl ⟨rfl, rfl⟩⟩, hI.srt, hI.bel⟩
      · exact ⟨B, hI.far.2.resolve_left (fun q => by cases q.1), Nat.le_trans hb (Nat.le_of_lt (Array.getElem?_eq_some_iff.1 hg).1), hI⟩
    have HC := Lib.hid (fun (y : World) (hy : Below W.heap.size W y) => (show y.cell? ⟨w.heap.size, 0, none⟩ = some v ∧ y.cell? ⟨C f.nm, 0, none⟩ = some (.string ⟨f.by_.toArray⟩) ∧ y.cell? ⟨C f.nm, 1, none⟩ = some (.int .i64 (f.sy : Int)) from
      ⟨cell_of_row _ _ _ _ _ _ ((hy.block _ (Array.getElem?_eq_some_iff.1 hI'.box).1).trans hI'.box), cell_of_row _ _ _ _ _ _ ((hy.block _ (Array.getElem?_eq_some_iff.1 hfc).1).trans hfc), cell_of_row _ _ _ _ _ _ ((hy.block _ (Array.getElem?_eq_some_iff.1 hfc).1).trans hfc)⟩))
    have HI := Lib.hid hI'
    have HY := Lib.hid (And.intro hY (And.intro hB' hBW))
    have HP := Lib.hid (show pre.length + 1 ≤ maxLen ∧ (pre.length + 1) * 40 ≤ 140737488355328 from by unfold maxLen; omega)
    have HF := Lib.hid (And.intro hiF (And.intro hzF (And.intro hsF hbF)))
    clear hd hI hI' hfm hfc hY hYl hB' hBW hSp hpl hiF hzF hsF hbF
    refine wpIn_block ?_
    refine RegK.wpIn_region_can (F := (Fence.wide.inRound l')) (KeptW W) [(0, 0), (1, 0), (2, 0), (3, 0), (4, 0), (5, 0), (6, 0), (7, 0), (8, 0), (9, 0), (10, 0), (11, 1), (12, 3), (13, 3)] (by kernel_rfl) (by kernel_rfl) (by kernel_rfl) (fun _ _ d _ _ h => by cases d <;> exact h) ⟨rfl, rfl, rfl, Nat.le_refl _, fun _ _ => rfl⟩ ?_
    dsimp only [RegK.pick, List.getElem?_cons_zero, List.getElem?_cons_succ]
    change RegK.Can _ _ _ _ _ _ _ _ W.drew
    have hkd : KeptW W W.drew := ⟨rfl, rfl, rfl, Nat.le_refl _, fun _ _ => rfl⟩
    generalize W.drew = v1 at *
    refine RegK.can_reads ?_
    intro K hK
    go_simp
    refine ⟨v, fun y hy => ?_, hK _ ?_⟩
    · obtain ⟨c1, c2, c3⟩ := HC.out y (KeptW.bel hy)
      go_simp
    clear hK K
    iterate 4 (refine RegK.can_reads ?_; intro K hK; go_simp; (first | refine ⟨_, fun _ _ => rfl, hK _ ?_⟩ | refine hK _ ?_); clear hK K)
    refine RegK.can_reads ?_
    intro K hK
    go_simp
    refine ⟨.string ⟨f.by_.toArray⟩, fun y hy => ?_, hK _ ?_⟩
    · obtain ⟨c1, c2, c3⟩ := HC.out y (KeptW.bel hy)
      go_simp
    clear hK K
    iterate 3 (refine RegK.can_reads ?_; intro K hK; go_simp; (first | refine ⟨_, fun _ _ => rfl, hK _ ?_⟩ | refine hK _ ?_); clear hK K)
    refine RegK.can_reads ?_
    intro K hK
    go_simp
    refine ⟨.int .i64 (f.sy : Int), fun y hy => ?_, hK _ ?_⟩
    · obtain ⟨c1, c2, c3⟩ := HC.out y (KeptW.bel hy)
      go_simp
    clear hK K
    refine RegK.can_reads ?_; intro K hK; go_simp; (first | refine ⟨_, fun _ _ => rfl, hK _ ?_⟩ | refine hK _ ?_); clear hK K
    refine RegK.can_turns (fun _ => trivial) ?_
    intro K K0 hK hK0
    go_simp
    have hkA := KeptW.mono hkd ((Below.refl v1.heap.size v1).alloc (Nat.le_refl _) (.cells #[.string ⟨f.nm.toArray⟩, .string ⟨f.by_.toArray⟩, .int .i64 (f.sy : Int)] 35))
    refine hK _ _ hkA ?_
    clear hK K hK0 K0
    have HN := Lib.hid (cells_newF v1 (filE f) 35)
    have hownA := World.ownsRow.alloc HI.out.own (.cells #[.string ⟨f.nm.toArray⟩, .string ⟨f.by_.toArray⟩, .int .i64 (f.sy : Int)] 35)
    have hown1 : v1.ownsRow B' 35 3 v pre.length (flat filE pre) := own_stay HI.out.own (fun k _ _ hl => (KeptW.bel hkd).block k hl)
    have HO := Lib.hid (World.ownsRow.alloc hown1 (.cells (filE f).toArray 35))
    have HS := Lib.hid (show B' ≤ (v1.alloc (.cells (filE f).toArray 35)).heap.size from by have := (KeptW.bel hkd).size; have := HY.out.2.2; simp; omega)
    change RegK.Can _ _ _ _ _ _ _ _ (v1.alloc (.cells (filE f).toArray 35))
    have HKA := Lib.hid (show KeptW W (v1.alloc (.cells (filE f).toArray 35)) from hkA)
    clear hownA hown1 hkA hkd
    generalize v1.heap.size = g1 at *
    generalize v1.alloc (.cells (filE f).toArray 35) = v2 at *
    refine RegK.can_frees (fun _ => trivial) ?_
    intro K K0 hK hK0
    rw [if_pos (by simp [Region.wanted])]
    refine opIn_append _ _ _ 39 rfl B' 35 iF _ 3 40 Tryz.underlying39 HF.out.1 HF.out.2.1 HF.out.2.2.1 HF.out.2.2.2 rfl (by decide) v pre.length (flat filE pre) rfl HO.out ⟨g1, 0, none⟩ 1 1 (filE f) rfl rfl HN.out (filE_one f) HP.out.1 HP.out.2 HS.out ?_
    intro v4 w4 ho4 hg4 _
    obtain ⟨A4, q4, rfl⟩ := own_slice_of ho4
    refine hK (fun _ => True) _ _ trivial ?_
    clear hK K hK0 K0
    have hbx4 : w4.heap[w.heap.size]? = some (.cells #[v] 39 (0, 0)) := by
      have h0 := (HI.out.box)
      have h1 := ((KeptW.bel HKA.out).block _ (Array.getElem?_eq_some_iff.1 h0).1).trans h0
      refine (hg4.block _ (Array.getElem?_eq_some_iff.1 h1).1 (fun e => ?_)).trans h1
      have := (own_at HI.out.own e.symm).1
      have := HI.out.far.1
      omega
    have c4 : w4.cell? ⟨w.heap.size, 0, none⟩ = some v := cell_of_row _ _ _ _ _ _ hbx4
    have t4 := thaw0 0 hbx4
    have HX := Lib.hid (HI.out.next HZ.out HY.out.1 HY.out.2.1 HKA.out ho4 hg4)
    clear hbx4 ho4 hg4
    refine RegK.can_frees (fun _ => trivial) ?_
    intro K K0 hK hK0
    go_simp
    refine hK (fun _ => True) _ _ trivial ?_
    clear hK K hK0 K0
    refine RegK.can_nil ?_
    exact ⟨HX.out.1, _, _, HX.out.2⟩
  case stop =>
    intro Y c pre W hY hYw hSp hx
    exact hx.elim
  case done =>
    rintro Y ys W hY hYw rfl ⟨v, B, hI⟩ hK
    have c0 : W.cell? ⟨w.heap.size, 0, none⟩ = some v := cell_of_row _ _ _ _ _ _ hI.box
    have HI := Lib.hid hI
    have hIT := hI.turn HZ.out hY (grownBy_putObj' W w2.heap.size (.deferred none)) (fun r e => by cases e; exact hYw)
    have HT := Lib.hid hIT
    clear hI hIT
    gi_wp2
    refine ⟨by simp, .inl ⟨_, _, rfl, run_takeDeferred hK, ?_⟩⟩
    refine ⟨v, ?_, v, rfl, own_base HT.out.own (by have := HT.out.far.1; omega), HT.out.bel⟩
    simp [results, Tryz.results19, go_sem]
end Go.Proofs.YtogfladmgbldcaaGreatDoor
namespace Go.Proofs.YtogfladmgbldcaaGreatDoor
theorem put_mid {f g : FilV} (hn : g.nm = f.nm) : ∀ {a r : List FilV}, Rise (a ++ f :: r) → putF g (a ++ f :: r) = a ++ g :: r
  | [], r, _ => by simp [putF, hn]
  | x :: a, r, h => by
    have h2 := List.pairwise_cons.1 h
    have hx := h2.1 f (by simp)
    rw [List.cons_append, putF, if_neg (fun e => by rw [e, hn] at hx; exact List.lt_irrefl _ hx), if_neg (fun e => by rw [hn] at e; exact List.lt_irrefl _ (List.lt_trans hx e)), put_mid hn h2.2]
    rfl
end Go.Proofs.YtogfladmgbldcaaGreatDoor
namespace Go.Proofs.YtogfladmgbldcaaGreatDoor
open Go.RowKit Go.Shelf
attribute [local go_sem] Oper.semAt_some
/-- A row of files, as an iterator reads it. -/
theorem files_row {w : World} {base N : Nat} {v : Value} {l : List FilV} (hN : l.length = N) (h : w.ownsRow base 35 3 v N (flat filE l)) : ∃ A c, v = .slice A N c ∧ ∃ Y : Nat → Prop, (∀ r, Y r → base ≤ r ∧ r < w.heap.size) ∧
    ∀ i f, l[i]? = some f → ∃ g, A = some ⟨g, 0, none⟩ ∧ ∀ y, KeptZ Y w y → y.cell? ⟨g, i * 3, none⟩ = some (.string ⟨f.nm.toArray⟩) ∧ y.cell? ⟨g, i * 3 + 1, none⟩ = some (.string ⟨f.by_.toArray⟩) ∧ y.cell? ⟨g, i * 3 + 2, none⟩ = some (.int .i64 (f.sy : Int)) := by
  rcases h.2 with ⟨rfl, h0⟩ | ⟨g, cap, cur, rfl, hb, hg, hc1, _, hcs, ht⟩
  · have hl : l = [] := List.length_eq_zero_iff.1 (by omega)
    subst hl
    exact ⟨none, 0, by rw [h0], fun _ => False, fun _ h => h.elim, fun i x hx => by simp at hx⟩
  · refine ⟨_, _, rfl, fun r => r = g, fun r hr => by subst hr; exact ⟨hb, (Array.getElem?_eq_some_iff.1 hg).1⟩, fun i f hf => ⟨g, rfl, fun y hy => ?_⟩⟩
    have hi : i < l.length := (List.getElem?_eq_some_iff.1 hf).1
    have one : ∀ r u, (filE f)[r]? = some u → r < 3 → y.cell? ⟨g, i * 3 + r, none⟩ = some u := fun r u hu hr => by
      have e1 : (cur.toList.take (N * 3))[i * 3 + r]? = some u := by
        rw [ht]
        exact flat_at filE_len l i r f u hf hu
      rw [List.getElem?_take, if_pos (by omega)] at e1
      unfold World.cell?
      rw [hy g _ rfl hg]
      show cur[i * 3 + r]? = _
      rw [← Array.getElem?_toList]
      exact e1
    exact ⟨one 0 _ rfl (by decide), one 1 _ rfl (by decide), one 2 _ rfl (by decide)⟩
end Go.Proofs.YtogfladmgbldcaaGreatDoor
namespace Go.Proofs.YtogfladmgbldcaaGreatDoor
def rems (D : DskV) (l : List Bs) : DskV := l.foldl (fun D nm => (remD D nm).1) D
theorem rems_cons (D : DskV) (nm : Bs) (l : List Bs) : rems D (nm :: l) = rems (remD D nm).1 l := rfl
theorem rems_snoc (D : DskV) (l : List Bs) (nm : Bs) : rems D (l ++ [nm]) = (remD (rems D l) nm).1 := by unfold rems; rw [List.foldl_append]; rfl
theorem rem_one {D : DskV} {nm : Bs} {f : FilV} (hd : D.dead = false) (hf : findF nm D.fs = some f) : remD D nm = ({ D with fs := delF nm D.fs, room := D.room + f.by_.length }, 0) := by
  unfold remD
  rw [with_some hd hf]
theorem rems_spec (l : List Bs) : ∀ (D : DskV), D.dead = false → l.Nodup → (∀ nm ∈ l, ∃ f ∈ D.fs, f.nm = nm) →
    (rems D l).dead = false ∧ (rems D l).fuse = D.fuse ∧ (rems D l).fs = D.fs.filter (fun f => decide (f.nm ∉ l)) := by
  induction l with
  | nil =>
    intro D hd _ _
    refine ⟨hd, rfl, ?_⟩
    show D.fs = _
    rw [List.filter_eq_self.2]
    simp
  | cons nm l ih =>
    intro D hd hn hm
    obtain ⟨hn1, hn2⟩ := List.nodup_cons.1 hn
    obtain ⟨f, hf, rfl⟩ := hm nm (List.mem_cons_self ..)
    have hs : (findF f.nm D.fs).isSome = true := find_some.2 (List.mem_map.2 ⟨f, hf, rfl⟩)
    obtain ⟨g, hg⟩ := Option.isSome_iff_exists.1 hs
    rw [rems_cons, rem_one hd hg]
    obtain ⟨i1, i2, i3⟩ := ih { D with fs := delF f.nm D.fs, room := D.room + g.by_.length } hd hn2 (fun q hq => by
      obtain ⟨x, hx, rfl⟩ := hm q (List.mem_cons_of_mem _ hq)
      exact ⟨x, List.mem_filter.2 ⟨hx, by simpa using fun e => hn1 (by rw [← e]; exact hq)⟩, rfl⟩)
    refine ⟨i1, i2, ?_⟩
    rw [i3]
    show (delF f.nm D.fs).filter _ = _
    unfold delF
    rw [List.filter_filter]
    congr 1
    funext x
    simp [Bool.and_comm]
theorem rems_find {D : DskV} {l : List Bs} {nm : Bs} {k : Nat} (hd : D.dead = false) (hn : l.Nodup) (hm : ∀ nm ∈ l, ∃ f ∈ D.fs, f.nm = nm) (hk : k < l.length) (hnm : nm = l[k]) : ∃ f, findF nm (rems D (l.take k)).fs = some f ∧ (rems D (l.take k)).dead = false := by
  obtain ⟨h1, _, h3⟩ := rems_spec (l.take k) D hd (hn.sublist (List.take_sublist _ _)) (fun q hq => hm q (List.take_subset _ _ hq))
  obtain ⟨f, hf, hfn⟩ := hm nm (by rw [hnm]; exact List.getElem_mem hk)
  have hnot : nm ∉ l.take k := by
    have h2 : l = l.take k ++ l.drop k := (List.take_append_drop k l).symm
    rw [h2] at hn
    intro hq
    exact (List.nodup_append.1 hn).2.2 nm hq nm (by rw [hnm, List.drop_eq_getElem_cons hk]; exact List.mem_cons_self ..) rfl
  have hs : (findF nm (rems D (l.take k)).fs).isSome = true := find_some.2 (by
    rw [h3]
    exact List.mem_map.2 ⟨f, List.mem_filter.2 ⟨hf, by simpa [hfn] using hnot⟩, hfn⟩)
  obtain ⟨g, hg⟩ := Option.isSome_iff_exists.1 hs
  exact ⟨g, hg, h1⟩
end Go.Proofs.YtogfladmgbldcaaGreatDoor
namespace Go.Proofs.YtogfladmgbldcaaGreatDoor
open Go Go.RowKit
theorem append_where {P : Program} (w : World) (base : Nat) (t ty e : TypeId) (i : TypeInfo) (z : Value) (size bytes : Nat) (ht : P.underlying t = some (.slice e)) (hi : P.info? e = some i) (hz : i.zero = some z)
    (hsize : i.size = size) (hby : i.bytes = bytes) (hzs : z.cells.size = size) (hsz : 0 < size) (v : Value) (n : Nat) (xs : List Value) (hown : w.ownsRow base e size v n xs)
    (a : Addr) (m c : Nat) (news : List Value) (hl : news.length = m * size) (hnews : ∀ j u, news[j]? = some u → w.cell? (a.add j) = some u) (h1 : ∀ u ∈ news, u.oneCell' = true)
    (h63 : n + m ≤ maxLen) (hbytes : (n + m) * bytes ≤ 140737488355328) {v' : Value} {w' : World} (hr : (Builtin.append_ #[t, t] ty #[v, .slice (some a) m c]).run P w = .ok v' w') :
    ∀ k, v'.ownBlock = some k → v.ownBlock = some k ∨ w.heap.size ≤ k := by
  intro k hk
  have h63' := h63
  simp only [maxLen] at h63'
  rcases hown.2 with ⟨rfl, rfl⟩ | ⟨g, cap, cur, rfl, hbg, hg, hnc, hcm, hcs, htake⟩
  · have hx : xs = [] := List.eq_nil_of_length_eq_zero (by simpa using hown.1)
    subst hx
    obtain ⟨v2, w2, hr2, ho2, _, _⟩ := run_append_own (P := P) w w.heap.size t ty e i z size bytes ht hi hz hsize hby hzs hsz (.slice none 0 0) 0 [] (World.ownsRow_nil _ _ _ _) a m c news hl hnews h1 h63 hbytes (Nat.le_refl _)
    rw [hr] at hr2
    injection hr2 with e1 e2
    subst e1
    exact .inr (ho2.lt k hk).1
  · subst hsize
    by_cases hroom : n + m ≤ cap
    · have hfit : n * i.size + news.length ≤ cur.size := by rw [hl, hcs, ← Nat.add_mul]; exact Nat.mul_le_mul_right _ hroom
      have h2 := run_append_room (P := P) w t ty e i ht hi g n cap cur hg a m c news hl hnews h1 hroom hfit
      rw [hr] at h2
      injection h2 with e1 e2
      subst e1
      exact .inl hk
    · have holds : ∀ j u, xs[j]? = some u → w.cell? ((⟨g, 0, none⟩ : Addr).add j) = some u := hown.cells (g := g) rfl
      subst hby
      have h2 := run_append_grow (P := P) w t ty e i z ht hi hz ⟨g, 0, none⟩ n cap xs hown.1 holds a m c news hl hnews (by omega) (by omega) (growslice_fits (by omega) hbytes)
      rw [hr] at h2
      injection h2 with e1 e2
      subst e1
      simp [Value.ownBlock] at hk
      exact .inr (by omega)
theorem opIn_append2 {F : Fence} {n : Nat} {P : Program} (w : World) {o : Oper} {a : Act} {K : Act → World → Prop} {Q : Exit → Act → World → Prop}
    (s x : Operand) (t : TypeId) (hop : o.op = Op.call { callee := Callee.builtin Builtin.append, args := #[s, x], argTypes := #[t, t] })
    (base : Nat) (e : TypeId) (i : TypeInfo) (z : Value) (size bytes : Nat) (h1 : P.underlying t = some (.slice e)) (h2 : P.info? e = some i) (h3 : i.zero = some z) (h4 : i.size = size) (h5 : i.bytes = bytes) (h6 : z.cells.size = size) (h7 : 0 < size)
    (v : Value) (k : Nat) (xs : List Value) (hs : a.eval s = v) (hown : w.ownsRow base e size v k xs) (ad : Addr) (m c : Nat) (news : List Value) (hx : a.eval x = .slice (some ad) m c) (hn : news.length = m * size)
    (hc : ∀ j u, news[j]? = some u → w.cell? (ad.add j) = some u) (h1c : ∀ u ∈ news, u.oneCell' = true) (b1 : k + m ≤ maxLen) (b2 : (k + m) * bytes ≤ 140737488355328) (b3 : base ≤ w.heap.size)
    (hK : ∀ v' w', w'.ownsRow base e size v' (k + m) (xs ++ news) → w.grownBy w' v.ownBlock → (∀ q, v'.ownBlock = some q → v.ownBlock = some q ∨ w.heap.size ≤ q) → K (a.put o.dst v') w') :
    o.wpIn F n P a w K Q := by
  obtain ⟨v', w', hrun, r1, r2, r3⟩ := run_append_own (P := P) w base t o.type e i z size bytes h1 h2 h3 h4 h5 h6 h7 v k xs hown ad m c news hn hc h1c b1 b2 b3
  have r4 := append_where (P := P) w base t o.type e i z size bytes h1 h2 h3 h4 h5 h6 h7 v k xs hown ad m c news hn hc h1c b1 b2 hrun
  unfold Oper.wpIn
  refine ⟨?_, ?_⟩
  · simp [Oper.about, hop, resolve, Target.leads, Sem.run_pure]
  · rw [Oper.semAt_plain F _ _ (by rw [hop]; intro c hc'; cases hc')]
    simp [execOp, hop, resolve, invoke, builtin, hs, hx, hrun, Result.andThen]
    exact hK v' w' r1 r2 r4
theorem wpListIn_append2 {F : Fence} {n : Nat} {P : Program} (w : World) {ops : Array Oper} {rest : List Oper} {o : Oper} {a : Act} {Q : Exit → Act → World → Prop} (hg : o.guard = none)
    (s x : Operand) (t : TypeId) (hop : o.op = Op.call { callee := Callee.builtin Builtin.append, args := #[s, x], argTypes := #[t, t] })
    (base : Nat) (e : TypeId) (i : TypeInfo) (z : Value) (size bytes : Nat) (h1 : P.underlying t = some (.slice e)) (h2 : P.info? e = some i) (h3 : i.zero = some z) (h4 : i.size = size) (h5 : i.bytes = bytes) (h6 : z.cells.size = size) (h7 : 0 < size)
    (v : Value) (k : Nat) (xs : List Value) (hs : a.eval s = v) (hown : w.ownsRow base e size v k xs) (ad : Addr) (m c : Nat) (news : List Value) (hx : a.eval x = .slice (some ad) m c) (hn : news.length = m * size)
    (hc : ∀ j u, news[j]? = some u → w.cell? (ad.add j) = some u) (h1c : ∀ u ∈ news, u.oneCell' = true) (b1 : k + m ≤ maxLen) (b2 : (k + m) * bytes ≤ 140737488355328) (b3 : base ≤ w.heap.size)
    (hK : ∀ v' w', w'.ownsRow base e size v' (k + m) (xs ++ news) → w.grownBy w' v.ownBlock → (∀ q, v'.ownBlock = some q → v.ownBlock = some q ∨ w.heap.size ≤ q) → wpListIn F n P ops Q rest (a.put o.dst v') w') :
    wpListIn F n P ops Q (o :: rest) a w :=
  wpListIn_plain hg fun _ hK' => opIn_append2 w s x t hop base e i z size bytes h1 h2 h3 h4 h5 h6 h7 v k xs hs hown ad m c news hx hn hc h1c b1 b2 b3 (fun v' w' q1 q2 q3 => hK' _ _ (hK v' w' q1 q2 q3))
end Go.Proofs.YtogfladmgbldcaaGreatDoor
namespace Go.Proofs.YtogfladmgbldcaaGreatDoor
open Go.RowKit Go.Shelf
attribute [local go_sem] Oper.semAt_some
theorem allocs_below (l : List Obj) : ∀ (w : World) (n : Nat) (w0 : World), Below n w0 w → n ≤ w.heap.size → Below n w0 (l.foldl (fun w o => w.alloc o) w) := by
  induction l with
  | nil => intro w n w0 h _; exact h
  | cons o r ih => intro w n w0 h hn; exact ih (w.alloc o) n w0 (h.alloc hn o) (by simp; omega)
theorem allocs_at (l : List Obj) : ∀ (w : World) (i : Nat) (o : Obj), l[i]? = some o → (l.foldl (fun w o => w.alloc o) w).heap[w.heap.size + i]? = some o := by
  induction l with
  | nil => intro w i o h; simp at h
  | cons q r ih =>
    intro w i o h
    cases i with
    | zero =>
      simp at h
      subst h
      exact ((allocs_below r (w.alloc q) (w.alloc q).heap.size (w.alloc q) (Below.refl _ _) (Nat.le_refl _)).block _ (by simp)).trans (World.alloc_heap_new w q)
    | succ i =>
      have h2 := ih (w.alloc q) i o (by simpa using h)
      rw [World.size_alloc] at h2
      rw [show w.heap.size + (i + 1) = w.heap.size + 1 + i by omega]
      exact h2
def encS (l : List Bs) : List Value := l.map encStr
theorem DskAt.trim {w : World} {p b n : Nat} {C : Bs → Nat} {L : List Nat} {D : DskV} (h : DskAt w p b n C L D) : ∃ L', DskAt w p b n C L' D ∧ ∀ g ∈ L', g ∈ L ∧ g < w.heap.size := by
  refine ⟨p :: b :: D.fs.map (fun f => C f.nm), ⟨h.d, h.m, h.c, h.inj, ⟨by simp, by simp, h.pb.2.2⟩, fun f hf => ⟨by simp; exact .inr (.inr ⟨f, hf, rfl⟩), (h.cl f hf).2⟩, h.ris, h.syn, h.sum, h.fz⟩, fun g hg => ?_⟩
  rcases List.mem_cons.1 hg with rfl | hg
  · exact ⟨h.pb.1, h.lt⟩
  · rcases List.mem_cons.1 hg with rfl | hg
    · exact ⟨h.pb.2.1, h.m.lt⟩
    · obtain ⟨f, hf, rfl⟩ := List.mem_map.1 hg
      exact ⟨(h.cl f hf).1, (Array.getElem?_eq_some_iff.1 (h.c f hf)).1⟩
theorem infoStr : (Tryz.prog.info? 9).map (fun i => (i.zero, i.size, i.bytes)) = some (some (.string ⟨#[]⟩), 1, 16) := by kernel_rfl
theorem encS_one (l : List Bs) : ∀ u ∈ encS l, u.oneCell' = true := by
  intro u hu
  obtain ⟨x, _, rfl⟩ := List.mem_map.1 hu
  rfl
end Go.Proofs.YtogfladmgbldcaaGreatDoor
namespace Go.Proofs.YtogfladmgbldcaaGreatDoor
open Go.RowKit Go.Shelf
/-- A segment's name. -/
def sname (n : Nat) : Bs := 115 :: (List.replicate (8 - (Lib.itoa (n : Int)).length) 48 ++ Lib.itoa (n : Int))
theorem rep48 : ∀ k, Lib.repeatL [48] k = List.replicate k 48
  | 0 => rfl
  | k + 1 => by rw [Lib.repeatL, rep48 k, List.replicate_succ]; rfl
set_option maxRecDepth 100000 in
theorem lname_any (n : Nat) (hn : n ≤ 9223372036854775807) (hl : (Lib.itoa (n : Int)).length ≤ 8) (w : World) (hv : PV w) :
    Calls Tryz.prog 56 #[.int .i64 (n : Int)] w fun e w' => e = .returned (.string ⟨(sname n).toArray⟩) ∧ Below w.heap.size w w' := by
  have H := Lib.hid (itoa_any (n : Int) (by omega) (by omega) w hv)
  have HR := Lib.hid (fun (c : Nat) (hc : c ≤ 1000) (y : World) => show Calls Tryz.prog 70 #[.string ⟨#[48]⟩, .int .i64 (c : Int)] y fun e w' => e = .returned (.string ⟨(Lib.repeatL [48] c).toArray⟩) ∧ Below y.heap.size y w' from rep_any ⟨#[48]⟩ c y hc (by decide))
  clear hv hn
  obtain ⟨x, hx⟩ : ∃ x : ByteArray, x = ⟨(Lib.itoa (n : Int)).toArray⟩ := ⟨_, rfl⟩
  rw [← hx] at H
  have hxs : x.size = (Lib.itoa (n : Int)).length := by rw [hx]; simp [ByteArray.size]
  have hx16 : x.size ≤ 8 := by omega
  have HX0 := Lib.hid (And.intro hx hxs)
  clear hx hxs hl
  go_enter Tryz.func56, Tryz.ntmps56
  go_upto_region 2 with ((with_reducible refine H.out.mono ?_); rintro e w1 ⟨rfl, hb⟩; have HM := Lib.hid hb; clear hb)
  obtain ⟨c, hc⟩ : ∃ c, c = 8 - x.size := ⟨_, rfl⟩
  obtain ⟨Z, hZ⟩ : ∃ Z : ByteArray, Z = ⟨(Lib.repeatL [48] c).toArray⟩ := ⟨_, rfl⟩
  have hZs : Z.size = c := by rw [hZ]; simp [ByteArray.size, Lib.repeatL_length]
  have hc1 := HR.out c (by omega) w1
  have hw : wrap64 (8 - (x.size : Int)) = (c : Int) := by unfold wrap64; omega
  rw [← hZ] at hc1
  have HC := Lib.hid hc1
  have HC2 := Lib.hid (by have h2 := hc1; rw [show ((c : Nat) : Int) = 8 - (x.size : Int) by omega] at h2; exact h2)
  have hZ16 : Z.size ≤ 8 := by omega
  have HX := Lib.hid (And.intro hc hZ)
  have hn1 : (9223372036854775807 < 1 + Z.size) = False := by simp; omega
  have hn2 : (9223372036854775807 < 1 + Z.size + x.size) = False := by simp; omega
  clear hc hZ hZs hc1
  go_wp2_with (first
    | ((with_reducible refine HC.out.mono ?_); rintro e w2 ⟨rfl, hb⟩; have HB := Lib.hid hb; clear hb)
    | ((with_reducible refine HC2.out.mono ?_); rintro e w2 ⟨rfl, hb⟩; have HB := Lib.hid hb; clear hb))
  go_ret
  refine ⟨?_, HM.out.trans (HB.out.mono HM.out.size)⟩
  show Ending.returned (Value.string (({ data := #[115] } : ByteArray) ++ Z ++ x)) = _
  congr 2
  apply ByteArray.ext
  apply Array.toList_inj.1
  rw [ByteArray.data_append, ByteArray.data_append, Array.toList_append, Array.toList_append, HX0.out.1, HX.out.2, rep48, HX.out.1, HX0.out.2]
  show [115] ++ List.replicate (8 - (Lib.itoa (n : Int)).length) 48 ++ Lib.itoa (n : Int) = sname n
  unfold sname
  simp
/-- A segment's number, of a name. -/
def numN (nm : Bs) : Option Nat := if nm.length = 9 ∧ nm.headD 0 = 115 then (okOf (Lib.parseUintB 32 (nm.drop 1))).bind (fun n => if n = 0 then none else some n) else none
theorem okOf_le {l : Bs} {u : Nat} (h : okOf (Lib.parseUintB 32 l) = some u) : u ≤ 4294967295 := by
  cases hp : Lib.parseUintB 32 l with
  | ok v =>
    rw [hp] at h
    have h2 := Lib.parseUintB_le hp
    cases h
    exact h2
  | _ => rw [hp] at h; cases h
set_option maxRecDepth 100000 in
set_option maxHeartbeats 4000000 in
theorem lnum_any (x : ByteArray) (w : World) (hv : PV w) :
    Calls Tryz.prog 75 #[.string x] w fun e w' => e = .returned (.tuple #[.int .i64 (((numN x.data.toList).getD 0 : Nat) : Int), .bool (numN x.data.toList).isSome]) ∧ Below w.heap.size w w' := by
  have hxl : x.data.toList.length = x.size := Array.length_toList
  by_cases h9 : x.size = 9
  · have h9i : ((x.size : Int) != 9) = false := by rw [h9]; rfl
    obtain ⟨y, hy⟩ : ∃ y, y = x.extract 1 9 := ⟨_, rfl⟩
    have hyl : y.data.toList = x.data.toList.drop 1 := by
      rw [hy, ByteArray.data_extract, Array.toList_extract, List.extract_eq_take_drop, List.take_of_length_le (by rw [List.length_drop]; omega)]
    have hys : y.size = 8 := by
      have h := congrArg List.length hyl
      rw [List.length_drop, hxl] at h
      have h2 : y.data.toList.length = y.size := Array.length_toList
      omega
    have h0 : 0 < x.size := by omega
    have hhd : x.data.toList.headD 0 = x[0]'h0 := by
      have e : x.data.toList[0]? = some (x[0]'h0) := by
        rw [List.getElem?_eq_getElem (by omega)]
        rfl
      cases hd : x.data.toList with
      | nil => rw [hd] at hxl; simp at hxl; omega
      | cons b r => rw [hd] at e; simpa using e
    by_cases hb : x.data.toList.headD 0 = 115
    · have hbi : (((x[0]'h0).toNat : Int) != 115) = false := by rw [← hhd, hb]; rfl
      have hN : numN x.data.toList = (okOf (Lib.parseUintB 32 y.data.toList)).bind (fun n => if n = 0 then none else some n) := by
        unfold numN
        rw [if_pos ⟨by omega, hb⟩, hyl]
      have HP := Lib.hid (puint_any y (by omega) w hv)
      have hle := fun u => okOf_le (l := y.data.toList) (u := u)
      rw [hN]
      generalize okOf (Lib.parseUintB 32 y.data.toList) = R at *
      have Hy := Lib.hid hy
      clear hN hy hyl hys hxl hv hb hhd
      cases R with
      | none =>
        clear hle
        go_enter Tryz.func75, Tryz.ntmps75
        go_wp2_with (rw [← Hy.out]; go_at_call 79; refine HP.out.mono ?_; rintro e w1 ⟨hb, q, t, p, hq, rfl⟩; have HB := Lib.hid hb; clear hb hq)
        go_ret2
        exact ⟨rfl, HB.out⟩
      | some n =>
        have hn := hle n rfl
        clear hle
        by_cases hz : n = 0
        · subst hz
          go_enter Tryz.func75, Tryz.ntmps75
          go_wp2_with (rw [← Hy.out]; go_at_call 79; refine HP.out.mono ?_; rintro e w1 ⟨hb, rfl⟩; have HB := Lib.hid hb; clear hb)
          go_ret2
          exact ⟨rfl, HB.out⟩
        · rw [show (some n).bind (fun n => if n = 0 then none else some n) = some n by rw [Option.bind_some, if_neg hz]]
          have hn0 : ((n : Int) == 0) = false := by rw [beq_eq_false_iff_ne]; omega
          have hw : wrap64 (n : Int) = (n : Int) := by unfold wrap64; omega
          have HW := Lib.hid hw
          clear hz hn hw
          go_enter Tryz.func75, Tryz.ntmps75
          go_wp2_with (rw [← Hy.out]; go_at_call 79; refine HP.out.mono ?_; rintro e w1 ⟨hb, rfl⟩; have HB := Lib.hid hb; clear hb)
          go_ret2
          refine ⟨?_, HB.out⟩
          show Ending.returned (.tuple #[.int .i64 (wrap64 (n : Int)), .bool true]) = _
          rw [HW.out]
          rfl
    · have hbi : (((x[0]'h0).toNat : Int) != 115) = true := by
        rw [← hhd, bne_iff_ne]
        intro q
        apply hb
        apply UInt8.toNat_inj.1
        show _ = 115
        omega
      rw [show numN x.data.toList = none by unfold numN; rw [if_neg (fun h => hb h.2)]]
      clear hv hxl hy hyl hys hhd hb
      go_enter Tryz.func75, Tryz.ntmps75
      go_wp2
      go_ret2
      exact ⟨rfl, Below.refl _ _⟩
  · have h9i : ((x.size : Int) != 9) = true := by rw [bne_iff_ne]; omega
    rw [show numN x.data.toList = none by unfold numN; rw [if_neg (fun h => h9 (by rw [← hxl]; exact h.1))]]
    clear h9 hv hxl
    go_enter Tryz.func75, Tryz.ntmps75
    go_wp2
    go_ret2
    exact ⟨rfl, Below.refl _ _⟩
end Go.Proofs.YtogfladmgbldcaaGreatDoor
namespace Go.Proofs.YtogfladmgbldcaaGreatDoor
open Go Go.RowKit
/-- An iterator's law: it names the blocks that are its own when it has laid them; all of them are new; whatever the rounds do, they leave what the iterator reads (Rd). -/
def SeqE {α : Type} (F : Fence) (n : Nat) (P : Program) (g : Nat) (lb : Array Value) (encs : α → Array Value) (S Sp : List α → Prop) (Rd : World → Prop) (T : List Nat) (Fin : List α → World → Prop) (w : World) : Prop :=
  ∀ (l : Nat) (J Jx : (Nat → Prop) → List α → World → Prop) (W : World), Below w.heap.size w W → (∀ Y, NewY Y W → AbidesZ Y (J Y)) → (∀ Y, NewY Y W → AbidesZ Y (Jx Y)) → (∀ Y pre W1, J Y pre W1 → Rd W1) →
    (∀ Y xs W1 W2, NewY Y W → S xs → J Y xs W1 → Turns T W1 W2 → Fin xs W2 → J Y xs W2) →
    (∀ Y pre x W1, NewY Y W → J Y pre W1 → (∀ r, Y r → r < W1.heap.size) → Sp (pre ++ [x]) → YieldAt F (n - 1) P l (encs x) W1 fun e W' =>
      (e = .returned (.bool true) ∧ J Y (pre ++ [x]) W' ∧ KeptZ Y W1 W') ∨ (e = .returned (.bool false) ∧ Jx Y (pre ++ [x]) W' ∧ KeptZ Y W1 W')) →
    (∀ Y, NewY Y W → J Y [] W) →
    CallsIn F n P g (#[.func (.yield l) #[] #[]] ++ lb) W fun e W' => (∃ v, e = .returned v) ∧ ∃ Y : Nat → Prop, NewY Y W ∧ ((∃ xs, S xs ∧ J Y xs W' ∧ Fin xs W') ∨ (∃ pre, Sp pre ∧ Jx Y pre W'))
variable {F : Fence} {n : Nat} {P : Program}
theorem wpIn_rangeE {α : Type} {g : Operand} {ps : Array Tmp} {assign body : Code} {Q : Exit → Act → World → Prop} {a : Act} {w : World}
    (hro : F.round = none) (h1 : 1 ≤ n) {gf : Nat} {lb : Array Value} (hg : a.eval g = .func (.func gf) #[] lb) (hFg : F.fn gf) (eg : ∀ args w, (callFunc gf args).run P w = .ok (.enter gf args) w)
    {encs : α → Array Value} {S Sp : List α → Prop} {Rd : World → Prop} {T : List Nat} {Fin : List α → World → Prop} {w0 : World} (hseq : SeqE F (n - 1) P gf lb encs S Sp Rd T Fin w0) (hT : ∀ r ∈ T, r < w0.heap.size) (hFin : AbidesZ (fun r => w0.heap.size ≤ r) Fin) (hb0 : Below w0.heap.size w0 w) (hps : ∀ x, (encs x).size = ps.size)
    (I : (Nat → Prop) → List α → World → Prop) (Ix : (Nat → Prop) → Code → List α → World → Prop) (hI : ∀ Y, NewY Y w → AbidesZ Y (I Y)) (hIx : ∀ Y, NewY Y w → ∀ c, AbidesZ Y (Ix Y c)) (hRd : ∀ Y pre W, I Y pre W → Rd W) (hIT : ∀ Y xs W W', NewY Y w → S xs → I Y xs W → Turns T W W' → Fin xs W' → I Y xs W')
    (h0 : ∀ Y, NewY Y w → I Y [] w) (a₁ : α → Act)
    (hassign : ∀ (l : Nat) (x : α) (W : World) (K : Act → World → Prop), K (a₁ x) W →
      assign.wpIn (F.inRound l) (n - 1 - 1) P (Exit.then K (fun _ _ _ => False)) { tmps := (ps.zip (encs x)).foldl (fun t (p, v) => t.setIfInBounds p v) a.tmps, defers := [] } W)
    (hbody : ∀ (l : Nat) (Y : Nat → Prop) (pre : List α) (x : α) (W : World), NewY Y w → (∀ r, Y r → r < W.heap.size) → I Y pre W → Sp (pre ++ [x]) → body.wpIn (F.inRound l) (n - 1 - 1) P (ownPostZ Y (I Y) (Ix Y) (pre ++ [x]) W) (a₁ x) W)
    (hdone : ∀ (Y : Nat → Prop) (xs : List α) (W : World), NewY Y w → Y w.heap.size → S xs → I Y xs W → Fin xs W → W.heap[w.heap.size]? = some (.deferred (some [])) → Q .normal { a with defers := { target := .collected w.heap.size, args := #[] } :: a.defers } W)
    (hstop : ∀ (Y : Nat → Prop) (c : Code) (pre : List α) (W : World), NewY Y w → Y w.heap.size → Sp pre → Ix Y c pre W → W.heap[w.heap.size]? = some (.deferred (some [])) → c.wpIn F n P Q { a with defers := { target := .collected w.heap.size, args := #[] } :: a.defers } W) :
    (Code.rangeFunc g ps assign body).wpIn F n P Q a w := by
  refine wpIn_rangeFunc (fun fn hfn => ?_)
  rw [hro]
  have hDd : ∀ {X : Nat → Prop}, NewY X w → ∀ r, X r → w.heap.size ≤ r := fun h r hr => h r hr
  generalize hD : w.heap.size = D at *
  let rec0 : LoopState → Option Code → Obj := fun st pe => .loop { state := st, pending := pe, fn, tmps := a.tmps, params := ps, assign, body, defers := D }
  let V := (w.alloc (.deferred (some []))).alloc (rec0 .ready none)
  have sV : V.heap.size = D + 2 := by simp [V, hD]
  have rV : V.heap[D + 1]? = some (rec0 .ready none) := by
    have h := World.alloc_heap_new (w.alloc (.deferred (some []))) (rec0 .ready none)
    rwa [World.size_alloc, hD] at h
  have dV : V.heap[D]? = some (.deferred (some [])) := by
    have h := World.alloc_heap_new w (.deferred (some []))
    rw [hD] at h
    exact (Below.heap_alloc _ _ _ (by rw [World.size_alloc]; omega)).trans h
  have bw : Below w.heap.size w V := ((Below.refl _ w).alloc (Nat.le_refl _) _).alloc (by simp) _
  have bV : Below w0.heap.size w0 V := hb0.trans (bw.mono hb0.size)
  let Zo : (Nat → Prop) → Nat → Prop := fun Y r => Y r ∨ r = D ∨ r = D + 1
  have zN : ∀ Y, NewY Y V → NewY (Zo Y) w := fun Y hY r hr => by
    rcases hr with h | h | h
    · have := hY r h; omega
    · omega
    · omega
  have iV : ∀ Y, NewY Y V → I (Zo Y) [] V := fun Y hY => hI _ (zN Y hY) _ _ _ none (h0 _ (zN Y hY)) ⟨bw.os, bw.tape, bw.output, bw.size, fun q hq _ => bw.block q hq⟩ (fun r e => by cases e)
  have turn : ∀ {β : Type} {Y : Nat → Prop} {J : β → World → Prop} (_ : AbidesZ (Zo Y) J) {s : β} {A : World} (o : Obj), J s A → J s (A.putObj (D + 1) o) := @fun β Y J hJ s A o h => hJ s A _ (some (D + 1)) h (grownBy_putObj' A (D + 1) o) (fun r e => by cases e; exact .inr (.inr rfl))
  refine ⟨D + 1, [{ target := .collected D, args := #[] }], V, { target := .fn (.func gf) lb, args := #[.func (.yield (D + 1)) #[] #[]] }, V, gf, #[.func (.yield (D + 1)) #[] #[]] ++ lb, V, ?_, ?_, ?_, ?_, fun _ => h1, ?_⟩
  · subst hD; exact run_enterLoop_outer _ _ _ _ _
  · simp only [resolve, hg]; simp [go_sem]
  · intro f' hf'; simp [Target.leads] at hf'; subst hf'; exact hFg
  · simp [invoke, go_sem, eg]
  have yD : ∀ {Y : Nat → Prop}, NewY Y V → ¬ Y D := fun hY h => by have := hY _ h; omega
  have yL : ∀ {Y : Nat → Prop}, NewY Y V → ¬ Y (D + 1) := fun hY h => by have := hY _ h; omega
  have abide : ∀ {Y : Nat → Prop} {A B : World} {row : Option Nat} {q : Nat} {o : Obj}, A.grownBy B row → (∀ r, row = some r → Y r) → ¬ Y q → A.heap[q]? = some o → B.heap[q]? = some o := fun hg hr hq h =>
    (hg.block _ (Array.getElem?_eq_some_iff.1 h).1 (fun e => hq (hr _ e.symm))).trans h
  refine (hseq (D + 1) (fun Y pre W => I (Zo Y) pre W ∧ W.heap[D + 1]? = some (rec0 .ready none) ∧ W.heap[D]? = some (.deferred (some [])))
    (fun Y pre W => ∃ c, Ix (Zo Y) c pre W ∧ W.heap[D + 1]? = some (rec0 .done (some c)) ∧ W.heap[D]? = some (.deferred (some []))) V bV
    (fun Y hY s A B row hs hg' hr => ⟨hI _ (zN Y hY) s A B row hs.1 hg' (fun r e => .inl (hr r e)), abide hg' hr (yL hY) hs.2.1, abide hg' hr (yD hY) hs.2.2⟩)
    (fun Y hY s A B row hs hg' hr => hs.elim fun c hc => ⟨c, hIx _ (zN Y hY) c s A B row hc.1 hg' (fun r e => .inl (hr r e)), abide hg' hr (yL hY) hc.2.1, abide hg' hr (yD hY) hc.2.2⟩)
    (fun Y pre W1 h => hRd _ _ _ h.1) (fun Y xs W1 W2 hY hS h ht hf => ⟨hIT _ xs W1 W2 (zN Y hY) hS h.1 ht hf, (ht.block _ (Array.getElem?_eq_some_iff.1 h.2.1).1 (fun q => by have := hT _ q; have := hb0.size; omega)).trans h.2.1, (ht.block _ (Array.getElem?_eq_some_iff.1 h.2.2).1 (fun q => by have := hT _ q; have := hb0.size; omega)).trans h.2.2⟩) ?_ (fun Y hY => ⟨iV Y hY, rV, dV⟩)).mono ?_
  · rintro Y pre x W hY ⟨hi, hl, hk⟩ hsz hSp
    have hlt : D + 1 < W.heap.size := (Array.getElem?_eq_some_iff.1 hl).1
    have hItu := hI _ (zN Y hY)
    have hIxu := hIx _ (zN Y hY)
    have zD : Zo Y D := .inr (.inl rfl)
    have zL : Zo Y (D + 1) := .inr (.inr rfl)
    have hzz : ∀ r, Zo Y r → r < W.heap.size := fun r hr => by
      rcases hr with h | h | h
      · exact hsz r h
      · omega
      · omega
    refine ⟨fn, _, assign, body, run_yield (P := P) (args := encs x) hl (hps x), roundIn_of_wpIn hfn (wpIn_mono (hassign (D + 1) x W (fun a' W' => a' = a₁ x ∧ W' = W) ⟨rfl, rfl⟩) (fun e a1 W1 he => ?_))⟩
    cases e with
    | normal =>
      obtain ⟨rfl, rfl⟩ := he
      refine ⟨_, run_beginRound hl rfl, wpIn_mono (hbody (D + 1) (Zo Y) pre x _ (zN Y hY) (fun r hr => by simpa using hzz r hr) (turn hItu _ hi) hSp) ?_⟩
      generalize hW2 : W1.putObj (D + 1) _ = W2
      have hl2 : W2.heap[D + 1]? = some (rec0 .busy none) := by rw [← hW2]; exact World.putObj_heap_same hlt
      have hk2 : W2.heap[D]? = some (.deferred (some [])) := by rw [← hW2]; exact (World.putObj_heap_other (by omega)).trans hk
      have ky : KeptZ Y W1 W2 := by rw [← hW2]; exact KeptZ.put (yL hY) _
      have yZ : ∀ r, Y r → Zo Y r := fun r hr => .inl hr
      have fin : ∀ (jump : Option Code) (W3 : World), KeptZ (Zo Y) W2 W3 → W3.heap[D + 1]? = some (rec0 .busy none) ∧ W3.heap[D]? = some (.deferred (some [])) ∧
          (Instr.endRound (D + 1) jump).run P W3 = .ok (.bool jump.isNone) (W3.putObj (D + 1) (rec0 (if jump.isNone then .ready else .done) jump)) := fun jump W3 k3 =>
        ⟨k3 _ _ zL hl2, k3 _ _ zD hk2, run_endRound (P := P) jump (k3 _ _ zL hl2)⟩
      have rest : ∀ (st : LoopState) (pe : Option Code) (W3 : World), W3.heap[D + 1]? = some (rec0 .busy none) → W3.heap[D]? = some (.deferred (some [])) →
          (W3.putObj (D + 1) (rec0 st pe)).heap[D + 1]? = some (rec0 st pe) ∧ (W3.putObj (D + 1) (rec0 st pe)).heap[D]? = some (.deferred (some [])) := fun st pe W3 h2 h3 =>
        ⟨World.putObj_heap_same (Array.getElem?_eq_some_iff.1 h2).1, (World.putObj_heap_other (by omega)).trans h3⟩
      intro e2 a3 W3 hp
      cases e2 with
      | normal =>
        obtain ⟨k3, i3⟩ := hp
        obtain ⟨h2, h3, hrun⟩ := fin none W3 k3
        exact ⟨_, _, hrun, .inl ⟨rfl, ⟨turn hItu _ i3, rest _ _ _ h2 h3⟩, (ky.trans (k3.sub yZ)).trans (KeptZ.put (yL hY) _)⟩⟩
      | ret =>
        obtain ⟨h2, h3, hrun⟩ := fin (some .ret) W3 hp.1
        exact ⟨_, _, hrun, .inr ⟨rfl, ⟨.ret, turn (hIxu _) _ hp.2, rest _ _ _ h2 h3⟩, (ky.trans (hp.1.sub yZ)).trans (KeptZ.put (yL hY) _)⟩⟩
      | exit id =>
        obtain ⟨h2, h3, hrun⟩ := fin (some (.exit id)) W3 hp.1
        exact ⟨_, _, hrun, .inr ⟨rfl, ⟨.exit id, turn (hIxu _) _ hp.2, rest _ _ _ h2 h3⟩, (ky.trans (hp.1.sub yZ)).trans (KeptZ.put (yL hY) _)⟩⟩
      | goto t =>
        obtain ⟨h2, h3, hrun⟩ := fin (some (.goto t)) W3 hp.1
        exact ⟨_, _, hrun, .inr ⟨rfl, ⟨.goto t, turn (hIxu _) _ hp.2, rest _ _ _ h2 h3⟩, (ky.trans (hp.1.sub yZ)).trans (KeptZ.put (yL hY) _)⟩⟩
      | panic ch => exact hp.elim
      | outgrown => exact hp.elim
    | exit id => exact he.elim
    | goto t => exact he.elim
    | ret => exact he.elim
    | panic ch => exact he.elim
    | outgrown => exact he.elim
  · rintro e W2 ⟨⟨v, rfl⟩, Y, hY, (⟨xs, hS, ⟨hi, hl, hk⟩, hf⟩ | ⟨pre, hSp, c, hi, hl, hk⟩)⟩
    · exact ⟨none, _, run_endLoop (P := P) hl (by simp), hdone (Zo Y) xs _ (zN Y hY) (.inr (.inl rfl)) hS (turn (hI _ (zN Y hY)) _ hi) (hFin _ _ _ (some (D + 1)) hf (grownBy_putObj' _ (D + 1) _) (fun r e => by cases e; have := hb0.size; omega)) ((World.putObj_heap_other (by omega)).trans hk)⟩
    · exact ⟨some c, _, run_endLoop (P := P) hl (by simp), hstop (Zo Y) c pre _ (zN Y hY) (.inr (.inl rfl)) hSp (turn (hIx _ (zN Y hY) c) _ hi) ((World.putObj_heap_other (by omega)).trans hk)⟩
end Go.Proofs.YtogfladmgbldcaaGreatDoor
namespace Go.Proofs.YtogfladmgbldcaaGreatDoor
open Go.RowKit Go.Shelf
theorem rdF_len (s : Bs) : (rdF s).2.s.length ≤ s.length := by
  unfold rdF
  split
  · rw [fail_s]; exact below_len _ _
  · exact below_len _ _
theorem takeF_adv {s : Bs} (h : (takeF s).2.2 = 0) : 8 ≤ (takeF s).2.1 ∧ (takeF s).2.1 ≤ s.length := by
  have hr := rdF_len s
  unfold takeF at h ⊢
  by_cases h1 : (rdF s).2.e ≠ 0
  · rw [if_pos h1] at h; exact (h1 h).elim
  · rw [if_neg h1] at h ⊢
    by_cases h2 : (rdF s).2.s.length < 8 + (rdF s).1
    · rw [if_pos h2] at h; cases h
    · rw [if_neg h2] at h ⊢
      by_cases h3 : crcN (((rdF s).2.s.drop 8).take (rdF s).1) ≠ leN ((rdF s).2.s.take 8)
      · rw [if_pos h3] at h; cases h
      · rw [if_neg h3]
        show 8 ≤ s.length - (rdF s).2.s.length + 8 + (rdF s).1 ∧ s.length - (rdF s).2.s.length + 8 + (rdF s).1 ≤ s.length
        omega
/-- The frames of s up to byte k: where each one begins, and its inside. -/
inductive FrP (s : Bs) : List (Nat × Bs) → Nat → Prop
  | nil : FrP s [] 0
  | snoc {l : List (Nat × Bs)} {k : Nat} (h : FrP s l k) (hk : k < s.length) (he : (takeF (s.drop k)).2.2 = 0) : FrP s (l ++ [(k, (takeF (s.drop k)).1)]) (k + (takeF (s.drop k)).2.1)
/-- .. and why there is no further one. -/
def FrE (s : Bs) (l : List (Nat × Bs)) (k c : Nat) : Prop := FrP s l k ∧ ((s.length ≤ k ∧ c = 0) ∨ (k < s.length ∧ (takeF (s.drop k)).2.2 = c ∧ c ≠ 0))
theorem FrP.le {s : Bs} {l : List (Nat × Bs)} {k : Nat} (h : FrP s l k) : k ≤ s.length := by
  induction h with
  | nil => exact Nat.zero_le _
  | snoc h hk he ih =>
    have := (takeF_adv he).2
    rw [List.length_drop] at this
    omega
set_option maxRecDepth 100000 in
/-- Split's inner function: where the frames end, and why. -/
theorem fend_any (t6 t7 k c : Nat) (a b : Value) (hne : t6 ≠ t7) (w : World) (h6 : w.heap[t6]? = some (.cells #[a] 3 (0, 0))) (h7 : w.heap[t7]? = some (.cells #[b] 24 (0, 0))) :
    Calls Tryz.prog 101 #[.int .i64 (k : Int), .int .i64 (c : Int), .pointer (some ⟨t6, 0, none⟩), .pointer (some ⟨t7, 0, none⟩)] w fun e w' => (∃ v, e = .returned v) ∧ w'.heap[t6]? = some (.cells #[.int .i64 (k : Int)] 3 (0, 0)) ∧ w'.heap[t7]? = some (.cells #[.int .i64 (c : Int)] 24 (0, 0)) ∧ Turns [t6, t7] w w' := by
  have f6 := thaw0 0 h6
  have f7 := thaw0 0 h7
  have c6 := cell_of_row _ _ 0 _ _ _ h6
  have c7 := cell_of_row _ _ 0 _ _ _ h7
  rw [show (#[a] : Array Value)[0]? = some a from rfl] at c6
  rw [show (#[b] : Array Value)[0]? = some b from rfl] at c7
  have H := Lib.hid (And.intro h6 h7)
  clear h6 h7
  go_enter Tryz.func101, Tryz.ntmps101
  go_wp2
  refine bodyPost_end (results_none rfl _ _ _) rfl ?_
  obtain ⟨h6, h7⟩ := H.out
  have e7 : (w.setCell ⟨t6, 0, none⟩ (.int .i64 (k : Int))).heap[t7]? = some (.cells #[b] 24 (0, 0)) := (setC_other (fun q => hne q.symm)).trans h7
  have e6 := heap_setCell_same w t6 0 #[a] _ (.int .i64 (k : Int)) h6
  have g7 := heap_setCell_same _ t7 0 #[b] _ (.int .i64 (c : Int)) e7
  refine ⟨⟨_, rfl⟩, ?_, ?_, ?_⟩
  · exact (setC_other hne).trans e6
  · exact g7
  · refine ⟨rfl, rfl, rfl, by simp, fun g hg hn => ?_⟩
    rw [setC_other (fun q => hn (by simp [q])), setC_other (fun q => hn (by simp [q]))]
end Go.Proofs.YtogfladmgbldcaaGreatDoor
