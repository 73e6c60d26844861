/- Frames: Split. Condition: the text is not too long. -/
import Derived.Test.YtogfladmgbldcaaGreatDoorZLogRenews8
namespace Go.Proofs.YtogfladmgbldcaaGreatDoor
open Go.RowKit Go.Shelf
attribute [local go_sem] Oper.semAt_some
/-- The insides, as values. -/
def encI (l : List (Nat × Bs)) : List Value := encS (l.map (fun x => x.2))
theorem encI_snoc (l : List (Nat × Bs)) (x : Nat × Bs) : encI (l ++ [x]) = encI l ++ [.string ⟨x.2.toArray⟩] := by simp [encI, encS, encStr]
/-- Split, between its rounds. -/
structure SplI (s : Bs) (w : World) (Y : Nat → Prop) (pre : List (Nat × Bs)) (y : World) (v : Value) (B : Nat) : Prop where
  box : y.heap[w.heap.size]? = some (.cells #[v] 52 (0, 0))
  own : y.ownsRow B 9 1 v pre.length (encI pre)
  far : w.heap.size + 5 ≤ B ∧ (v = .slice none 0 0 ∧ pre = [] ∨ ∀ r, Y r → r < B)
  rd : FrRd (w.heap.size + 3) (w.heap.size + 4) (w.heap.size + 1) (w.heap.size + 2) s y
  bel : Below w.heap.size w y
theorem FrRd.keep {gs ge t6 t7 : Nat} {s : Bs} {y y' : World} (h : FrRd gs ge t6 t7 s y) (hk : ∀ g, g = gs ∨ g = ge ∨ g = t6 ∨ g = t7 → g < y.heap.size → y'.heap[g]? = y.heap[g]?) : FrRd gs ge t6 t7 s y' := by
  obtain ⟨a, ha⟩ := h.a
  obtain ⟨b, hb⟩ := h.b
  exact ⟨(hk _ (.inl rfl) (Array.getElem?_eq_some_iff.1 h.s).1).trans h.s, (hk _ (.inr (.inl rfl)) (Array.getElem?_eq_some_iff.1 h.e).1).trans h.e,
    ⟨a, (hk _ (.inr (.inr (.inl rfl))) (Array.getElem?_eq_some_iff.1 ha).1).trans ha⟩, ⟨b, (hk _ (.inr (.inr (.inr rfl))) (Array.getElem?_eq_some_iff.1 hb).1).trans hb⟩⟩
theorem SplI.turn {s : Bs} {w w2 : World} {Y : Nat → Prop} {pre : List (Nat × Bs)} {y : World} {v : Value} {B : Nat} (h : SplI s w Y pre y v B) (hw : w.heap.size + 5 ≤ w2.heap.size) (hY : NewY Y w2) {y' : World} {row : Option Nat} (hg : y.grownBy y' row) (hr : ∀ r, row = some r → Y r) : SplI s w Y pre y' v B := by
  have hz : ∀ r, row = some r → w.heap.size + 5 ≤ r := fun r e => Nat.le_trans hw (hY r (hr r e))
  refine ⟨(hg.block _ (Array.getElem?_eq_some_iff.1 h.box).1 (fun e => by have := hz _ e.symm; omega)).trans h.box, own_stay h.own (fun k hk hB hl => hg.block k hl (fun e => ?_)), h.far, h.rd.keep (fun g hg2 hl => hg.block g hl (fun e => by have := hz _ e.symm; omega)),
    below_grown hg h.bel h.bel.size (fun k e => by have := hz k e; omega)⟩
  rcases h.far.2 with ⟨rfl, _⟩ | q
  · cases hk
  · have := q k (hr k e.symm)
    omega
theorem FrP.le8 {s : Bs} {l : List (Nat × Bs)} {k : Nat} (h : FrP s l k) : l.length ≤ k := by
  induction h with
  | nil => exact Nat.le_refl _
  | snoc h hk he ih =>
    have := (takeF_adv he).1
    rw [List.length_append, List.length_singleton]
    omega
/-- The iterator's end turns two boxes. -/
theorem SplI.fin {s : Bs} {w : World} {Y : Nat → Prop} {pre : List (Nat × Bs)} {y y' : World} {v : Value} {B : Nat} (h : SplI s w Y pre y v B) (ht : Turns [w.heap.size + 1, w.heap.size + 2] y y') (hf : FrFin (w.heap.size + 1) (w.heap.size + 2) s pre y') : SplI s w Y pre y' v B := by
  obtain ⟨k, c, _, h6, h7⟩ := hf
  have kp : ∀ {g : Nat} {o : Obj}, y.heap[g]? = some o → g ≠ w.heap.size + 1 → g ≠ w.heap.size + 2 → y'.heap[g]? = some o := fun {g o} hg h1 h2 => (ht.block g (Array.getElem?_eq_some_iff.1 hg).1 (by simp; omega)).trans hg
  have hfar := h.far.1
  refine ⟨kp h.box (by omega) (by omega), own_stay h.own (fun k hk hB hl => ?_), h.far, ⟨kp h.rd.s (by omega) (by omega), kp h.rd.e (by omega) (by omega), ⟨_, h6⟩, ⟨_, h7⟩⟩, h.bel.trans ⟨ht.os, ht.tape, ht.out, ht.size, fun g hg => ht.block g (by have := h.bel.size; omega) (by simp; omega)⟩⟩
  exact ht.block k hl (by simp; omega)
/-- An inside is put behind the others. -/
theorem SplI.next {s : Bs} {w w2 : World} {Y : Nat → Prop} {pre : List (Nat × Bs)} {x : Nat × Bs} {W v2 w4 : World} {v v4 : Value} {B : Nat} (h : SplI s w Y pre W v B) (hw : w.heap.size + 5 ≤ w2.heap.size) (hY : NewY Y w2) (hYl : ∀ r, Y r → r < B)
    (hb2 : Below W.heap.size W v2) (ho : w4.ownsRow B 9 1 v4 (pre.length + 1) (encI pre ++ [.string ⟨x.2.toArray⟩])) (hg : v2.grownBy w4 v.ownBlock) : KeptZ Y W (w4.setCell ⟨w.heap.size, 0, none⟩ v4) ∧ SplI s w Y (pre ++ [x]) (w4.setCell ⟨w.heap.size, 0, none⟩ v4) v4 B := by
  have hf := h.far.1
  have hvb : ∀ k, v.ownBlock = some k → B ≤ k := fun k e => (own_at h.own e).1
  have hbl : ∀ k, k < W.heap.size → k < B → w4.heap[k]? = W.heap[k]? := fun k hl hB => (hg.block k (Nat.lt_of_lt_of_le hl hb2.size) (fun e => by have := hvb k e.symm; omega)).trans (hb2.block k hl)
  have hset : ∀ k, k ≠ w.heap.size → (w4.setCell ⟨w.heap.size, 0, none⟩ v4).heap[k]? = w4.heap[k]? := fun k hk => setC_other hk
  have hbox := (hbl _ (Array.getElem?_eq_some_iff.1 h.box).1 (by omega)).trans h.box
  have hb4 : Below w.heap.size w w4 := below_grown hg (h.bel.trans (hb2.mono h.bel.size)) (Nat.le_trans h.bel.size hb2.size) (fun k e => by have := hvb k e; omega)
  refine ⟨fun r o hr ho2 => (hset r (by have := hY r hr; omega)).trans ((hbl r (Array.getElem?_eq_some_iff.1 ho2).1 (hYl r hr)).trans ho2), ?_, ?_, ⟨hf, .inr hYl⟩, h.rd.keep (fun g hg2 hl => (hset _ (by omega)).trans (hbl g hl (by omega))), hb4.setCell (p := ⟨w.heap.size, 0, none⟩) (Nat.le_refl _) v4⟩
  · exact heap_setCell_same w4 w.heap.size 0 #[v] _ v4 hbox
  · rw [List.length_append, List.length_singleton, encI_snoc]
    exact own_stay ho (fun k hk hB _ => hset k (by omega))
set_option maxRecDepth 100000 in
set_option maxHeartbeats 4000000 in
theorem split_in (s : Bs) (hs : s.length ≤ 8000000) (w : World) :
    CallsIn Fence.wide 9 Tryz.prog 76 #[.string ⟨s.toArray⟩] w fun e w' => ∃ v, e = .returned (.tuple #[v, .int .i64 ((splD s).2.1 : Int), .int .i64 ((splD s).2.2 : Int)]) ∧ w'.ownsRow w.heap.size 9 1 v (splD s).1.length (encS (splD s).1) ∧ Below w.heap.size w w' := by
  obtain ⟨S, hS⟩ : ∃ S : ByteArray, S = ⟨s.toArray⟩ := ⟨_, rfl⟩
  rw [← hS]
  have HS := Lib.hid (And.intro hS hs)
  have HFR := Lib.hid (fun (y : World) => by have h2 := frames_any S (w.heap.size + 1) (w.heap.size + 2) y; exact h2)
  clear hS hs
  refine callsIn_of_wp_marks Tryz.func76 rfl trivial ?_ rfl
  simp only [Tryz.ntmps76, List.size_toArray, List.length_cons, List.length_nil, Nat.reduceAdd, Nat.reduceSub, Array.replicate_succ, Array.replicate_zero, List.push_toArray, List.append_toArray, List.nil_append, List.cons_append]
  gi_wp2_with (first
    | (refine ⟨trivial, ?_⟩; simp only [Nat.add_assoc, Nat.reduceAdd]; (with_reducible refine (callsIn_wide.2 (HFR.out _)).mono ?_); rintro e w2 ⟨rfl, hbs, hbe, hb2⟩; dsimp only)
    | gi_in)
  simp only [World.size_alloc, Nat.add_assoc, Nat.reduceAdd] at hbs hbe hb2 ⊢
  obtain ⟨E, hE⟩ : ∃ E, E = (((w.alloc (.cells #[.slice none 0 0] 52)).alloc (.cells #[.int .i64 0] 3)).alloc (.cells #[.int .i64 0] 24)) := ⟨_, rfl⟩
  rw [← hE] at hb2
  have eE : E.heap.size = w.heap.size + 3 := by rw [hE]; simp
  have bE : Below w.heap.size w E := by
    rw [hE]
    exact ((((Below.refl w.heap.size w).alloc (Nat.le_refl _) _).alloc (by simp) _).alloc (by simp; omega) _)
  have x : ∀ (i : Nat) (o : Obj), E.heap[w.heap.size + i]? = some o → w2.heap[w.heap.size + i]? = some o := fun i o hi => (hb2.block _ (by have := (Array.getElem?_eq_some_iff.1 hi).1; omega)).trans hi
  have x0 := x 0 _ (show E.heap[w.heap.size + 0]? = some (.cells #[.slice none 0 0] 52 (0, 0)) by rw [hE]; exact allocs_at [.cells #[.slice none 0 0] 52, .cells #[.int .i64 0] 3, .cells #[.int .i64 0] 24] w 0 _ rfl)
  have x1 := x 1 _ (show E.heap[w.heap.size + 1]? = some (.cells #[.int .i64 0] 3 (0, 0)) by rw [hE]; exact allocs_at [.cells #[.slice none 0 0] 52, .cells #[.int .i64 0] 3, .cells #[.int .i64 0] 24] w 1 _ rfl)
  have x2 := x 2 _ (show E.heap[w.heap.size + 2]? = some (.cells #[.int .i64 0] 24 (0, 0)) by rw [hE]; exact allocs_at [.cells #[.slice none 0 0] 52, .cells #[.int .i64 0] 3, .cells #[.int .i64 0] 24] w 2 _ rfl)
  have hz2 : w.heap.size + 5 ≤ w2.heap.size := (Array.getElem?_eq_some_iff.1 hbe).1
  have bA : Below w.heap.size w w2 := bE.trans (hb2.mono (by omega))
  rw [HS.out.1] at hbs
  have HI0 := Lib.hid (fun (Y : Nat → Prop) => show SplI s w Y [] w2 (.slice none 0 0) (w.heap.size + 5) from ⟨x0, World.ownsRow_nil _ _ _ _, ⟨Nat.le_refl _, .inl ⟨rfl, rfl⟩⟩, ⟨hbs, hbe, ⟨_, x1⟩, ⟨_, x2⟩⟩, bA⟩)
  have HZ := Lib.hid (And.intro hz2 bA.size)
  clear x x0 x1 x2 hb2 bE eE bA hE hbs hbe
  clear E
  refine wpIn_rangeE rfl (by decide) (gf := 119) (lb := #[.pointer (some ⟨w.heap.size + 3, 0, none⟩), .pointer (some ⟨w.heap.size + 4, 0, none⟩)]) rfl trivial (enters_of Tryz.func119 (by kernel_rfl) rfl)
    (frames_stops _ (w.heap.size + 3) (w.heap.size + 4) (w.heap.size + 1) (w.heap.size + 2) s (by have := HS.out.2; omega) (by omega) w2) (fun r hr => by have := HZ.out.1; simp at hr; omega) (?hFin) (Below.refl _ _) (fun _ => rfl)
    (fun Y pre W' => ∃ v B, SplI s w Y pre W' v B) (fun _ _ _ _ => False)
    (fun Y hY s A B row hs hg hr => ?hI) (fun _ _ _ _ _ _ _ h _ _ => h) (fun Y pre W' hI => ?hRd) (fun Y xs W1 W2 hY hS hI ht hf => ?hIT) (fun Y _ => ⟨_, _, HI0.out Y⟩)
    (fun x => { tmps := #[.string S, undef, .slice none 0 0, .int .i64 0, .int .i64 0, .pointer (some ⟨w.heap.size, 0, none⟩), .pointer (some ⟨w.heap.size + 1, 0, none⟩), .pointer (some ⟨w.heap.size + 2, 0, none⟩), undef, .string ⟨x.2.toArray⟩, .string S, .func (.func 101) #[] #[.pointer (some ⟨w.heap.size + 1, 0, none⟩), .pointer (some ⟨w.heap.size + 2, 0, none⟩)], .func (.func 119) #[] #[.pointer (some ⟨w.heap.size + 3, 0, none⟩), .pointer (some ⟨w.heap.size + 4, 0, none⟩)], .int .i64 (x.1 : Int), .string ⟨x.2.toArray⟩, undef, undef, undef, undef, undef, undef, undef], defers := [] }) ?assign ?body ?done ?stop
  case hFin =>
    intro xs A B row hf hg hr
    obtain ⟨k, c, hE, h6, h7⟩ := hf
    have hz : ∀ r, row = some r → w.heap.size + 5 ≤ r := fun r e => Nat.le_trans HZ.out.1 (hr r e)
    exact ⟨k, c, hE, (hg.block _ (Array.getElem?_eq_some_iff.1 h6).1 (fun e => by have := hz _ e.symm; omega)).trans h6, (hg.block _ (Array.getElem?_eq_some_iff.1 h7).1 (fun e => by have := hz _ e.symm; omega)).trans h7⟩
  case hI =>
    obtain ⟨v, B, hs⟩ := hs
    exact ⟨v, B, hs.turn HZ.out.1 hY hg hr⟩
  case hRd =>
    obtain ⟨v, B, hI⟩ := hI
    exact hI.rd
  case hIT =>
    obtain ⟨v, B, hI⟩ := hI
    exact ⟨v, B, hI.fin ht hf⟩
  case assign =>
    intro l' f W' K hK
    simp only [encP]
    gi_wp2
    exact hK
  case body =>
    rintro l' Y pre x W hY hYl ⟨v, B, hI⟩ ⟨kk, hSp⟩
    obtain ⟨iF, hiF, hzF, hsF, hbF⟩ := info_parts infoStr
    have hpl : pre.length + 1 ≤ 8000000 := by
      have h1 := hSp.le8
      have h2 := hSp.le
      have := HS.out.2
      rw [List.length_append, List.length_singleton] at h1
      omega
    obtain ⟨B', hB', hBW, hI'⟩ : ∃ B', (∀ r, Y r → r < B') ∧ B' ≤ W.heap.size ∧ SplI s w Y pre W v B' := by
      rcases hI.own.2 with ⟨rfl, h0⟩ | ⟨g, cap, cur, rfl, hb, hg, _⟩
      · have hp0 : pre = [] := List.length_eq_zero_iff.1 h0
        subst hp0
        exact ⟨W.heap.size, hYl, Nat.le_refl _, hI.box, World.ownsRow_nil _ _ _ _, ⟨(Array.getElem?_eq_some_iff.1 hI.rd.e).1, .inl ⟨rfl, rfl⟩⟩, hI.rd, hI.bel⟩
      · exact ⟨B, hI.far.2.resolve_left (fun q => by cases q.1), Nat.le_trans hb (Nat.le_of_lt (Array.getElem?_eq_some_iff.1 hg).1), hI⟩
    obtain ⟨A5, c5, rfl⟩ := own_slice_of hI'.own
    have q5 := cell_of_row _ _ 0 _ _ _ hI'.box
    rw [show (#[Value.slice A5 pre.length c5] : Array Value)[0]? = some (.slice A5 pre.length c5) from rfl] at q5
    have HI := Lib.hid hI'
    have HY := Lib.hid (And.intro hY (And.intro hB' hBW))
    have HF := Lib.hid (And.intro hiF (And.intro hzF (And.intro hsF hbF)))
    have HP := Lib.hid hpl
    clear hI hI' hY hYl hB' hBW hSp hpl hiF hzF hsF hbF
    gi_wp2_with (first
      | (gi_at_builtin; refine wpListIn_append2 _ rfl _ _ 52 rfl B' 9 iF _ 1 16 Tryz.underlying52 HF.out.1 HF.out.2.1 HF.out.2.2.1 HF.out.2.2.2 rfl (by decide) _ pre.length (encI pre) rfl (World.ownsRow.alloc HI.out.own _) ⟨W.heap.size, 0, none⟩ 1 1 [.string ⟨x.2.toArray⟩] rfl rfl (cells_newF W [.string ⟨x.2.toArray⟩] _) (fun u hu => by simp at hu; subst hu; rfl) (by have := HP.out; unfold maxLen; omega) (by have := HP.out; omega) (by have := HY.out.2.2; simp; omega) ?_
         intro v' wA ho hg hq
         obtain ⟨A7, c7, rfl⟩ := own_slice_of ho
         have hba := (Below.refl W.heap.size W).alloc (Nat.le_refl _) (.cells #[.string ⟨x.2.toArray⟩] 9)
         have r6A : wA.heap[w.heap.size]? = some (.cells #[.slice A5 pre.length c5] 52 (0, 0)) := by
           have h0 := HI.out.box
           have h1 := (hba.block _ (Array.getElem?_eq_some_iff.1 h0).1).trans h0
           refine (hg.block _ (Array.getElem?_eq_some_iff.1 h1).1 (fun e => ?_)).trans h1
           have := (own_at HI.out.own e.symm).1
           have := HI.out.far.1
           omega
         have q6 := cell_of_row _ _ 0 _ _ _ r6A
         have f6 := thaw0 0 r6A
         have HX := Lib.hid (HI.out.next HZ.out.1 HY.out.1 HY.out.2.1 hba ho hg)
         clear r6A
         clear ho hg hq hba q5)
      | gi_in)
    exact ⟨HX.out.1, _, _, HX.out.2⟩
  case stop =>
    intro Y c pre W hY hYw hSp hx
    exact hx.elim
  case done =>
    rintro Y ys W hY hYw hS ⟨v, B, hI⟩ ⟨k, c, hE, h6, h7⟩ hK
    have hsp := hE.spl
    have HC := Lib.hid (fun (y : World) (hy : Below W.heap.size W y) => (show y.cell? ⟨w.heap.size, 0, none⟩ = some v ∧ y.cell? ⟨w.heap.size + 1, 0, none⟩ = some (.int .i64 (k : Int)) ∧ y.cell? ⟨w.heap.size + 2, 0, none⟩ = some (.int .i64 (c : Int)) from
      ⟨cell_of_row _ _ 0 _ _ _ ((hy.block _ (Array.getElem?_eq_some_iff.1 hI.box).1).trans hI.box), cell_of_row _ _ 0 _ _ _ ((hy.block _ (Array.getElem?_eq_some_iff.1 h6).1).trans h6), cell_of_row _ _ 0 _ _ _ ((hy.block _ (Array.getElem?_eq_some_iff.1 h7).1).trans h7)⟩))
    have HT := Lib.hid (And.intro hI (And.intro hsp (And.intro hY (And.intro hYw hK))))
    clear hI hS hE h6 h7 hsp hY hYw hK
    gi_wp2
    refine RegK.wpIn_region_calm (F := Fence.wide) (KeptW W) [(0, 0), (1, 0), (2, 0), (3, 0), (4, 0), (5, 0)] (by kernel_rfl) (by kernel_rfl) (by kernel_rfl) ⟨rfl, rfl, rfl, Nat.le_refl _, fun _ _ => rfl⟩ ?_
    dsimp only [RegK.pick, List.getElem?_cons_zero, List.getElem?_cons_succ]
    change RegK.Can _ _ _ _ _ _ _ _ W.drew
    have hkd : KeptW W W.drew := ⟨rfl, rfl, rfl, Nat.le_refl _, fun _ _ => rfl⟩
    generalize W.drew = z1 at *
    refine RegK.can_reads ?_
    intro K hK
    go_simp
    refine ⟨v, fun y hy => ?_, hK _ ?_⟩
    · obtain ⟨c0, c1, c2⟩ := HC.out y (KeptW.bel hy)
      go_simp
    clear hK K
    refine RegK.can_reads ?_
    intro K hK
    go_simp
    refine ⟨.int .i64 (k : Int), fun y hy => ?_, hK _ ?_⟩
    · obtain ⟨c0, c1, c2⟩ := HC.out y (KeptW.bel hy)
      go_simp
    clear hK K
    refine RegK.can_reads ?_
    intro K hK
    go_simp
    refine ⟨.int .i64 (c : Int), fun y hy => ?_, hK _ ?_⟩
    · obtain ⟨c0, c1, c2⟩ := HC.out y (KeptW.bel hy)
      go_simp
    clear hK K
    iterate 3 (refine RegK.can_reads ?_; intro K hK; go_simp; (first | refine ⟨_, fun _ _ => rfl, hK _ ?_⟩ | refine hK _ ?_); clear hK K)
    refine RegK.can_calm ?_
    have hbz := KeptW.bel hkd
    obtain ⟨hI, h2, hY, hYw, hK0⟩ := HT.out
    have hI1 := hI.turn HZ.out.1 hY (row := none) (y' := z1) ⟨hbz.os, hbz.tape, hbz.output, hbz.size, fun q hq _ => hbz.block q hq⟩ (fun r e => by cases e)
    have hK1 := (hbz.block _ (Array.getElem?_eq_some_iff.1 hK0).1).trans hK0
    have hIT := hI1.turn HZ.out.1 hY (grownBy_putObj' z1 w2.heap.size (.deferred none)) (fun r e => by cases e; exact hYw)
    have HT2 := Lib.hid (And.intro hIT (And.intro h2 hK1))
    clear hI hI1 hK0 hK1 hIT h2 hbz hkd hY hYw
    gi_wp2
    refine ⟨by simp, .inl ⟨_, _, rfl, run_takeDeferred HT2.out.2.2, ?_⟩⟩
    have h2 := HT2.out.2.1
    refine ⟨.tuple #[v, .int .i64 (k : Int), .int .i64 (c : Int)], ?_, v, ?_, ?_, HT2.out.1.bel⟩
    · simp [results, Tryz.results76, go_sem]
    · rw [h2]
    · rw [h2]
      have h3 := own_base HT2.out.1.own (base' := w.heap.size) (by have := HT2.out.1.far.1; omega)
      dsimp only
      rw [List.length_map]
      exact h3
theorem split_any (s : Bs) (hs : s.length ≤ 8000000) (w : World) :
    Calls Tryz.prog 76 #[.string ⟨s.toArray⟩] w fun e w' => ∃ v, e = .returned (.tuple #[v, .int .i64 ((splD s).2.1 : Int), .int .i64 ((splD s).2.2 : Int)]) ∧ w'.ownsRow w.heap.size 9 1 v (splD s).1.length (encS (splD s).1) ∧ Below w.heap.size w w' := callsIn_wide.1 (split_in s hs w)
end Go.Proofs.YtogfladmgbldcaaGreatDoor
namespace Go.Proofs.YtogfladmgbldcaaGreatDoor
open Go.RowKit Go.Shelf
def segE (x : Nat × FilV) : List Value := .int .i64 (x.1 : Int) :: filE x.2
theorem segE_len (x : Nat × FilV) : (segE x).length = 4 := rfl
theorem segE_one (x : Nat × FilV) : ∀ u ∈ segE x, u.oneCell' = true := by
  intro u hu
  rcases List.mem_cons.1 hu with rfl | hu
  · rfl
  · exact filE_one _ u hu
theorem infoSeg : (Tryz.prog.info? 97).map (fun i => (i.zero, i.size, i.bytes)) = some (some (.agg #[.int .i64 0, .string ⟨#[]⟩, .string ⟨#[]⟩, .int .i64 0]), 4, 48) := by kernel_rfl
set_option maxRecDepth 100000 in
set_option maxHeartbeats 4000000 in
theorem segments_any {p b n : Nat} {C : Bs → Nat} {L : List Nat} {D : DskV} (hlen : D.fs.length ≤ 1000000) (w : World) (hv : PV w) (h : DskAt w p b n C L D) :
    Calls Tryz.prog 51 #[.pointer (some ⟨p, 0, none⟩)] w fun e w' => ∃ v, e = .returned v ∧ w'.ownsRow w.heap.size 97 4 v (segL D.fs).length (flat segE (segL D.fs)) ∧ Below w.heap.size w w' := by
  have HF := Lib.hid (callsIn_wide.1 (files_in p b n C L D hlen w h))
  have HV := Lib.hid hv
  obtain ⟨iS, hiS, hzS, hsS, hbS⟩ := info_parts infoSeg
  have HiS := Lib.hid (And.intro hiS (And.intro hzS (And.intro hsS hbS)))
  clear h hv hiS hzS hsS hbS
  go_enter Tryz.func51, Tryz.ntmps51
  go_wp2_with ((with_reducible refine HF.out.mono ?_); rintro e w1 ⟨v, rfl, k1, k2⟩
               obtain ⟨A, c, rfl, Y, hY1, hY2⟩ := files_row rfl k1
               have HR := Lib.hid (And.intro hY1 (And.intro hY2 k2)); clear k1 k2 hY1 hY2)
  obtain ⟨N, hN⟩ : ∃ N, N = D.fs.length := ⟨_, rfl⟩
  rw [← hN]
  have HN := Lib.hid hN
  have hN6 : N ≤ 1000000 := by rw [hN]; exact hlen
  clear hN hlen
  go_loopw [3, 11] (fun s3 s11 wr => ∃ i : Nat, s11 = .int .i64 (i : Int) ∧ i ≤ N ∧ wr.ownsRow w1.heap.size 97 4 s3 (segL (D.fs.take i)).length (flat segE (segL (D.fs.take i))) ∧ Below w1.heap.size w1 wr) (fun _ s11 _ => N - (intOf s11).toNat)
  case atStart => exact ⟨0, rfl, Nat.zero_le _, World.ownsRow_nil _ _ _ _, Below.refl _ _⟩
  case round =>
    obtain ⟨i, rfl, hi, ho, hb⟩ := hrel
    obtain ⟨A3, c3, rfl⟩ := own_slice_of ho
    have HO := Lib.hid (And.intro ho hb)
    clear ho hb
    by_cases hiN : i < N
    · have hiI : (i : Int) < (N : Int) := by omega
      have hif : i < D.fs.length := by rw [← HN.out]; exact hiN
      obtain ⟨f, hf⟩ : ∃ f, f = D.fs[i] := ⟨_, rfl⟩
      obtain ⟨gk, rfl, hck⟩ := HR.out.2.1 i f (by rw [List.getElem?_eq_getElem hif, hf])
      obtain ⟨q0, q1, q2⟩ := hck wr (fun r o hr ho => (HO.out.2.block r (HR.out.1 r hr).2).trans ho)
      have htake : D.fs.take (i + 1) = D.fs.take i ++ [f] := by rw [List.take_add_one, List.getElem?_eq_getElem hif, hf]; rfl
      have hNU := Lib.hid (fun (y : World) (hy : Below w1.heap.size w1 y) => lnum_any ⟨f.nm.toArray⟩ y (HV.out.below (HR.out.2.2.trans (hy.mono HR.out.2.2.size))))
      have hsl := segL_len (D.fs.take i)
      rw [List.length_take] at hsl
      have hs6 : (segL (D.fs.take i)).length ≤ 1000000 := by omega
      have hw1 : wrap64 ((i : Int) + 1) = ((i + 1 : Nat) : Int) := by unfold wrap64; omega
      have HT := Lib.hid (And.intro htake hs6)
      have HB0 := Lib.hid (fun (o : Obj) => HO.out.2.alloc HO.out.2.size o)
      clear hf hck hif htake hsl hs6
      cases hsg : numN f.nm with
      | none =>
        have hNU2 := Lib.hid (fun (y : World) (hy : Below w1.heap.size w1 y) => by have h2 := hNU.out y hy; rw [show (⟨f.nm.toArray⟩ : ByteArray).data.toList = f.nm from rfl, hsg] at h2; exact h2)
        have HBF := Lib.hid (show segL (D.fs.take (i + 1)) = segL (D.fs.take i) from by rw [HT.out.1, segL_snoc]; unfold segF; rw [hsg]; simp)
        clear hsg hNU
        go_wp2_with (go_at_call 75; (with_reducible refine (hNU2.out _ (HB0.out _)).mono ?_); rintro e w3 ⟨rfl, hb3⟩; have HB3 := Lib.hid hb3; clear hb3)
        have hb4 := HB0.out (.cells (filE f).toArray 35)
        exact ⟨⟨i + 1, by rw [Int.natCast_add]; rfl, by omega, by rw [HBF.out]; exact own_stay HO.out.1 (fun k hk hB hl => (HB3.out.block k (by simp; omega)).trans (heap_alloc_old _ _ hl)), hb4.trans (HB3.out.mono hb4.size)⟩, by simp only [intOf]; omega⟩
      | some sn =>
        have hNU2 := Lib.hid (fun (y : World) (hy : Below w1.heap.size w1 y) => by have h2 := hNU.out y hy; rw [show (⟨f.nm.toArray⟩ : ByteArray).data.toList = f.nm from rfl, hsg] at h2; exact h2)
        have HBF := Lib.hid (show segL (D.fs.take (i + 1)) = segL (D.fs.take i) ++ [(sn, f)] from by rw [HT.out.1, segL_snoc]; unfold segF; rw [hsg]; rfl)
        clear hsg hNU
        obtain ⟨K, hK⟩ : ∃ K, K = (segL (D.fs.take i)).length := ⟨_, rfl⟩
        obtain ⟨XS, hXS⟩ : ∃ XS, XS = flat segE (segL (D.fs.take i)) := ⟨_, rfl⟩
        have HO2 := Lib.hid (by have h2 := HO.out.1; rw [← hK, ← hXS] at h2; exact h2)
        have HK := Lib.hid (And.intro hK hXS)
        rw [← hK]
        clear hK hXS
        go_wp2_with (first
          | (go_at_call 75; (with_reducible refine (hNU2.out _ (HB0.out _)).mono ?_); rintro e w3 ⟨rfl, hb3⟩
             have hr3 : w3.heap[wr.heap.size]? = some (.cells (filE f).toArray 35 (0, 0)) := (hb3.block wr.heap.size (by simp)).trans (heap_alloc_new wr _)
             have d0 : w3.cell? ⟨wr.heap.size, 0, none⟩ = some (.string ⟨f.nm.toArray⟩) := cell_of_row _ _ 0 _ _ _ hr3
             have d1 : w3.cell? ⟨wr.heap.size, 1, none⟩ = some (.string ⟨f.by_.toArray⟩) := cell_of_row _ _ 1 _ _ _ hr3
             have d2 : w3.cell? ⟨wr.heap.size, 2, none⟩ = some (.int .i64 (f.sy : Int)) := cell_of_row _ _ 2 _ _ _ hr3
             have ho3 := own_stay HO2.out (fun k hk hB hl => (hb3.block k (by simp; omega)).trans (heap_alloc_old _ _ hl))
             have hb4 := (HB0.out (.cells (filE f).toArray 35)).trans (hb3.mono (HB0.out (.cells (filE f).toArray 35)).size)
             have H3 := Lib.hid (And.intro ho3 hb4)
             clear hb3 hr3 ho3 hb4)
          | (at_builtin; refine wpList_append_own_at _ rfl _ _ 88 rfl w1.heap.size 97 iS _ 4 48 Tryz.underlying88 HiS.out.1 HiS.out.2.1 HiS.out.2.2.1 HiS.out.2.2.2 rfl (by decide) _ K XS rfl (World.ownsRow.alloc H3.out.1 _) ⟨w3.heap.size, 0, none⟩ 1 1 (segE (sn, f)) rfl rfl (cells_newF w3 (segE (sn, f)) _) (segE_one _) (by have := HT.out.2; have := HK.out.1; unfold maxLen; omega) (by have := HT.out.2; have := HK.out.1; omega) (by have := H3.out.2.size; simp; omega) ?_; intro v4 w4 ho4 hg4 _ _; have Hg4 := Lib.hid (And.intro ho4 hg4); clear ho4 hg4))
        have hba := (Below.refl w3.heap.size w3).alloc (Nat.le_refl _) (.cells (segE (sn, f)).toArray 97)
        refine ⟨⟨i + 1, by rw [Int.natCast_add]; rfl, by omega, ?_, below_grown Hg4.out.2 (H3.out.2.trans (hba.mono H3.out.2.size)) (by have := H3.out.2.size; simp; omega) (fun k e => (own_at H3.out.1 e).1)⟩, by simp only [intOf]; omega⟩
        rw [HBF.out, List.length_append, List.length_singleton, flat_app, show flat segE [(sn, f)] = segE (sn, f) by simp [flat], ← HK.out.1, ← HK.out.2]
        exact Hg4.out.1
    · have hiI : ¬ (i : Int) < (N : Int) := by omega
      obtain rfl : i = N := by omega
      have ho : wr.ownsRow w1.heap.size 97 4 (.slice A3 (segL (D.fs.take i)).length c3) (segL D.fs).length (flat segE (segL D.fs)) := by
        have h2 := HO.out.1
        generalize Value.slice A3 (segL (D.fs.take i)).length c3 = V at *
        rwa [show D.fs.take i = D.fs from by rw [HN.out, List.take_length]] at h2
      have HO3 := Lib.hid (And.intro ho HO.out.2)
      clear ho
      go_wp2
      go_ret
      exact ⟨_, rfl, own_base HO3.out.1 HR.out.2.2.size, HR.out.2.2.trans (HO3.out.2.mono HR.out.2.2.size)⟩
end Go.Proofs.YtogfladmgbldcaaGreatDoor
namespace Go.Proofs.YtogfladmgbldcaaGreatDoor
open Go.RowKit Go.Shelf
theorem wpList_append_rd {P : Program} {w : World} {ops : Array Oper} {rest : List Oper} {o : Oper} {a : Act} {Q : Exit → Act → World → Prop} (hgd : o.guard = none) (s x : Operand) (t : TypeId)
    (ho : o.op = .call { callee := .builtin .append, args := #[s, x], argTypes := #[t, t] })
    (base : Nat) (e : TypeId) (i : TypeInfo) (z : Value) (size bytes : Nat) (ht : P.underlying t = some (.slice e)) (hi : P.info? e = some i) (hz : i.zero = some z)
    (hsize : i.size = size) (hby : i.bytes = bytes) (hzs : z.cells.size = size) (hsz : 0 < size)
    (v : Value) (n : Nat) (xs : List Value) (hs : a.eval s = v) (hown : w.ownsRow base e size v n xs)
    (V : Value) (m : Nat) (news : List Value) (hx : a.eval x = V) (hl : news.length = m * size)
    (hV : (V = .slice none 0 0 ∧ m = 0) ∨ ∃ ad c, V = .slice (some ad) m c ∧ ∀ j u, news[j]? = some u → w.cell? (ad.add j) = some u) (h1 : ∀ u ∈ news, u.oneCell' = true)
    (h63 : n + m ≤ maxLen) (hbytes : (n + m) * bytes ≤ 140737488355328) (hbase : base ≤ w.heap.size)
    (h : ∀ v' w', w'.ownsRow base e size v' (n + m) (xs ++ news) → w.grownBy w' v.ownBlock → (∀ q, v'.ownBlock = some q → v.ownBlock = some q ∨ w.heap.size ≤ q) → wpList P ops Q rest (a.put o.dst v') w') :
    wpList P ops Q (o :: rest) a w := by
  rcases hV with ⟨rfl, rfl⟩ | ⟨ad, c, rfl, hc⟩
  · have h0 : news = [] := List.length_eq_zero_iff.1 (by omega)
    subst h0
    exact wpList_append_own_none hgd s x t ho base e i size ht hi v n xs hs hown hx (h v w (by simpa using hown) ⟨rfl, rfl, rfl, Nat.le_refl _, fun _ _ _ => rfl⟩ (fun q hq => .inl hq))
  · exact wpList_append_own_at w hgd s x t ho base e i z size bytes ht hi hz hsize hby hzs hsz v n xs hs hown ad m c news hx hl hc h1 h63 hbytes hbase (fun v' w' q1 q2 _ q4 => h v' w' q1 q2 (fun q hq => by
      rcases q4 with q4 | q4
      · exact .inl (by rw [← q4]; exact hq)
      · rw [q4] at hq; injection hq with hq; exact .inr (Nat.le_of_eq hq)))
theorem own_read {w : World} {base : Nat} {e : TypeId} {v : Value} {n : Nat} {xs : List Value} (h : w.ownsRow base e 1 v n xs) : (v = .slice none 0 0 ∧ n = 0) ∨ ∃ ad c, v = .slice (some ad) n c ∧ ∀ j u, xs[j]? = some u → w.cell? (ad.add j) = some u := by
  rcases h.2 with q | ⟨g, cap, cur, rfl, r⟩
  · exact .inl q
  · exact .inr ⟨_, _, rfl, h.cells (g := g) rfl⟩
theorem splD_count (s : Bs) : (splD s).1.length ≤ s.length := by
  have key : ∀ (n : Nat) (s : Bs), (splA n s).1.length ≤ s.length := by
    intro n
    induction n with
    | zero => intro s; exact Nat.zero_le _
    | succ n ih =>
      intro s
      rw [splA]
      split
      · exact Nat.zero_le _
      · split
        · exact Nat.zero_le _
        · next he =>
          have ha := takeF_adv (s := s) (by simpa using he)
          have h2 := ih (s.drop (takeF s).2.1)
          rw [List.length_drop] at h2
          show (_ :: _ : List Bs).length ≤ _
          rw [List.length_cons]
          omega
  exact key _ s
/-- All texts' bytes. -/
def totS (all : List (Nat × FilV)) : Nat := (all.map (fun x => x.2.by_.length)).sum
theorem recL_count : ∀ all : List (Nat × FilV), (recL all).length ≤ totS all
  | [] => Nat.le_refl _
  | x :: r => by
    have h1 := recL_count r
    have h2 := splD_count x.2.by_
    unfold recL totS at h1 ⊢
    rw [List.flatMap_cons, List.length_append, List.map_cons, List.sum_cons]
    omega
theorem totS_mem {all : List (Nat × FilV)} {x : Nat × FilV} (h : x ∈ all) : x.2.by_.length ≤ totS all := by
  induction all with
  | nil => cases h
  | cons y r ih =>
    unfold totS at ih ⊢
    rw [List.map_cons, List.sum_cons]
    rcases List.mem_cons.1 h with rfl | h
    · omega
    · have := ih h; omega
theorem totS_take (all : List (Nat × FilV)) (i : Nat) : totS (all.take i) ≤ totS all := by
  have h2 : totS (all.take i ++ all.drop i) = totS all := by rw [List.take_append_drop]
  have h3 : ∀ a b : List (Nat × FilV), totS (a ++ b) = totS a + totS b := fun a b => by unfold totS; simp
  rw [h3] at h2
  omega
/-- A row of segments that can be read. -/
def SegR (B : Nat) (w : World) (v : Value) (all : List (Nat × FilV)) : Prop := ∃ A c, v = .slice A all.length c ∧ ∃ Y : Nat → Prop, (∀ r, Y r → B ≤ r ∧ r < w.heap.size) ∧ ∀ i x, all[i]? = some x → ∃ g, A = some ⟨g, 0, none⟩ ∧ ∀ y, KeptZ Y w y →
  y.cell? ⟨g, i * 4, none⟩ = some (.int .i64 (x.1 : Int)) ∧ y.cell? ⟨g, i * 4 + 1, none⟩ = some (.string ⟨x.2.nm.toArray⟩) ∧ y.cell? ⟨g, i * 4 + 2, none⟩ = some (.string ⟨x.2.by_.toArray⟩) ∧ y.cell? ⟨g, i * 4 + 3, none⟩ = some (.int .i64 (x.2.sy : Int))
theorem seg_row {w : World} {base : Nat} {v : Value} {all : List (Nat × FilV)} (h : w.ownsRow base 97 4 v all.length (flat segE all)) : SegR base w v all := by
  rcases h.2 with ⟨rfl, h0⟩ | ⟨g, cap, cur, rfl, hb, hg, hc1, _, hcs, ht⟩
  · have hl : all = [] := List.length_eq_zero_iff.1 h0
    subst hl
    exact ⟨none, 0, rfl, fun _ => False, fun _ h => h.elim, fun i x hx => by simp at hx⟩
  · refine ⟨_, _, rfl, fun r => r = g, fun r hr => by subst hr; exact ⟨hb, (Array.getElem?_eq_some_iff.1 hg).1⟩, fun i f hf => ⟨g, rfl, fun y hy => ?_⟩⟩
    have hi : i < all.length := (List.getElem?_eq_some_iff.1 hf).1
    have one : ∀ r u, (segE f)[r]? = some u → r < 4 → y.cell? ⟨g, i * 4 + r, none⟩ = some u := fun r u hu hr => by
      have e1 : (cur.toList.take (all.length * 4))[i * 4 + r]? = some u := by
        rw [ht]
        exact flat_at segE_len all i r f u hf hu
      rw [List.getElem?_take, if_pos (by omega)] at e1
      unfold World.cell?
      rw [hy g _ rfl hg]
      show cur[i * 4 + r]? = _
      rw [← Array.getElem?_toList]
      exact e1
    exact ⟨one 0 _ rfl (by decide), one 1 _ rfl (by decide), one 2 _ rfl (by decide), one 3 _ rfl (by decide)⟩
theorem SegR.below {B : Nat} {w w' : World} {v : Value} {all : List (Nat × FilV)} (h : SegR B w v all) (hb : Below w.heap.size w w') : SegR B w' v all := by
  obtain ⟨A, c, rfl, Y, h1, h2⟩ := h
  refine ⟨A, c, rfl, Y, fun r hr => ⟨(h1 r hr).1, Nat.lt_of_lt_of_le (h1 r hr).2 hb.size⟩, fun i x hx => ?_⟩
  obtain ⟨g, e, h3⟩ := h2 i x hx
  exact ⟨g, e, fun y hy => h3 y (fun r o hr ho => hy r o hr ((hb.block r (h1 r hr).2).trans ho))⟩
/-- What read tells. -/
def ReadR (all : List (Nat × FilV)) (w : World) (e : Ending) (w' : World) : Prop :=
  Below w.heap.size w w' ∧ ((Spoilt all ∧ e = .returned (.tuple #[.slice none 0 0, .int .i64 0, .bool false])) ∨ (¬ Spoilt all ∧ ∃ v, e = .returned (.tuple #[v, .int .i64 (endL all : Int), .bool true]) ∧ w'.ownsRow w.heap.size 9 1 v (recL all).length (encS (recL all))))
set_option maxRecDepth 100000 in
set_option maxHeartbeats 16000000 in
theorem read_all (all : List (Nat × FilV)) (htot : totS all ≤ 8000000) (hsy : ∀ x ∈ all, x.2.sy ≤ x.2.by_.length) (hnum : ∀ x ∈ all, x.1 ≤ 4294967295) (hlen : all.length ≤ 1000000) (B : Nat) (w : World) (v : Value) (hr : SegR B w v all) :
    Calls Tryz.prog 52 #[v] w (ReadR all w) := by
  obtain ⟨N, hN⟩ : ∃ N, N = all.length := ⟨_, rfl⟩
  obtain ⟨A, c, rfl, Y, hY1, hY2⟩ := hr
  rw [← hN]
  have HR := Lib.hid (And.intro hY1 hY2)
  have HN := Lib.hid hN
  have hN6 : N ≤ 1000000 := by omega
  have HS := Lib.hid (And.intro htot (And.intro hsy hnum))
  obtain ⟨iS, hiS, hzS, hsS, hbS⟩ := info_parts infoStr
  have HiS := Lib.hid (And.intro hiS (And.intro hzS (And.intro hsS hbS)))
  clear hY1 hY2 hN hlen htot hsy hnum hiS hzS hsS hbS
  go_enter Tryz.func52, Tryz.ntmps52
  go_wp2
  go_loopw [5, 6, 15] (fun s5 s6 s15 wr => ∃ i : Nat, s15 = .int .i64 (i : Int) ∧ i ≤ N ∧ s6 = .int .i64 (endL (all.take i) : Int) ∧ wr.ownsRow w.heap.size 9 1 s5 (recL (all.take i)).length (encS (recL (all.take i))) ∧ Below w.heap.size w wr ∧ ∀ j, j < i → ¬ segBad all j) (fun _ _ s15 _ => N - (intOf s15).toNat)
  case atStart => exact ⟨0, rfl, Nat.zero_le _, rfl, World.ownsRow_nil _ _ _ _, Below.refl _ _, fun j hj => by omega⟩
  case round =>
    obtain ⟨i, rfl, hi, rfl, ho, hb, hgood⟩ := hrel
    obtain ⟨A5, c5, rfl⟩ := own_slice_of ho
    have HO := Lib.hid (And.intro ho (And.intro hb hgood))
    clear ho hb hgood
    obtain ⟨K, hK⟩ : ∃ K, K = (recL (all.take i)).length := ⟨_, rfl⟩
    obtain ⟨XS, hXS⟩ : ∃ XS, XS = encS (recL (all.take i)) := ⟨_, rfl⟩
    obtain ⟨E6, hE6⟩ : ∃ E6, E6 = endL (all.take i) := ⟨_, rfl⟩
    rw [← hK, ← hE6]
    have HK := Lib.hid (And.intro hK (And.intro hXS hE6))
    have HO2 := Lib.hid (by have h2 := HO.out.1; rw [← hK, ← hXS] at h2; exact h2)
    clear hK hXS hE6
    by_cases hiN : i < N
    · have hiI : (i : Int) < (N : Int) := by omega
      have hif : i < all.length := by rw [← HN.out]; exact hiN
      obtain ⟨x, hx⟩ : ∃ x, x = all[i] := ⟨_, rfl⟩
      have hxs : all[i]? = some x := by rw [List.getElem?_eq_getElem hif, hx]
      have hxm : x ∈ all := by rw [hx]; exact List.getElem_mem hif
      have htake : all.take (i + 1) = all.take i ++ [x] := by rw [List.take_add_one, hxs]; rfl
      obtain ⟨gk, rfl, hck⟩ := HR.out.2 i x hxs
      obtain ⟨q0, q1, q2, q3⟩ := hck wr (fun r o hr ho => (HO.out.2.1.block r (HR.out.1 r hr).2).trans ho)
      have hby := totS_mem hxm
      have hsyx := HS.out.2.1 x hxm
      have htot := HS.out.1
      obtain ⟨sy, hsy⟩ : ∃ sy, sy = x.2.sy := ⟨_, rfl⟩
      obtain ⟨bb, hbb⟩ : ∃ bb : ByteArray, bb = ⟨x.2.by_.toArray⟩ := ⟨_, rfl⟩
      have hbs : bb.size = x.2.by_.length := by rw [hbb]; simp [ByteArray.size]
      rw [← hbb] at q2
      rw [← hsy] at q3 hsyx
      have hsb : sy ≤ bb.size := by omega
      obtain ⟨tb, htb⟩ : ∃ tb, tb = bb.extract 0 sy := ⟨_, rfl⟩
      have htl : tb = ⟨(x.2.by_.take sy).toArray⟩ := by
        rw [htb, hbb]
        apply ByteArray.ext
        apply Array.toList_inj.1
        rw [ByteArray.data_extract, Array.toList_extract, List.extract_eq_take_drop]
        simp
      obtain ⟨R1, hR1⟩ : ∃ R, R = splD (x.2.by_.take sy) := ⟨_, rfl⟩
      obtain ⟨R2, hR2⟩ : ∃ R, R = splD x.2.by_ := ⟨_, rfl⟩
      have HSP1 := Lib.hid (show ∀ z : World, Calls Tryz.prog 76 #[.string tb] z fun e w' => ∃ v, e = .returned (.tuple #[v, .int .i64 (R1.2.1 : Int), .int .i64 (R1.2.2 : Int)]) ∧ w'.ownsRow z.heap.size 9 1 v R1.1.length (encS R1.1) ∧ Below z.heap.size z w' from fun z => by rw [htl, hR1]; exact split_any _ (by rw [List.length_take]; omega) z)
      have HSP2 := Lib.hid (show ∀ z : World, Calls Tryz.prog 76 #[.string bb] z fun e w' => ∃ v, e = .returned (.tuple #[v, .int .i64 (R2.2.1 : Int), .int .i64 (R2.2.2 : Int)]) ∧ w'.ownsRow z.heap.size 9 1 v R2.1.length (encS R2.1) ∧ Below z.heap.size z w' from fun z => by rw [hbb, hR2]; exact split_any _ (by omega) z)
      have HTB := Lib.hid htb
      have HX := Lib.hid (And.intro hxs (And.intro htake (And.intro hR1 (And.intro hR2 (And.intro hsy hbs)))))
      have HXL := Lib.hid (And.intro htot hby)
      have HB0 := Lib.hid (fun (o : Obj) => HO.out.2.1.alloc HO.out.2.1.size o)
      have HPV := Lib.hid (fun (y : World) (hy : Below w.heap.size w y) (k : Nat) (z : Nat × FilV) (hz : all[k]? = some z) => (show y.cell? ⟨gk, k * 4, none⟩ = some (.int .i64 (z.1 : Int)) from by
        obtain ⟨g2, e2, h2⟩ := HR.out.2 k z hz
        injection e2 with e2
        injection e2 with e2
        subst e2
        exact (h2 y (fun r o hr ho => (hy.block r (HR.out.1 r hr).2).trans ho)).1))
      clear hif hx hxs hxm htake hck hby htot hsy hbb hbs htb htl hR1 hR2 hsyx
      go_upto_region 6 with fail
      have hr8 : (wr.alloc (.cells #[.int .i64 (x.1 : Int), .string ⟨x.2.nm.toArray⟩, .string bb, .int .i64 (sy : Int)] 97)).heap[wr.heap.size]? = some (.cells #[.int .i64 (x.1 : Int), .string ⟨x.2.nm.toArray⟩, .string bb, .int .i64 (sy : Int)] 97 (0, 0)) := heap_alloc_new _ _
      have hb8 := HB0.out (.cells #[.int .i64 (x.1 : Int), .string ⟨x.2.nm.toArray⟩, .string bb, .int .i64 (sy : Int)] 97)
      have ho8 := World.ownsRow.alloc HO2.out (.cells #[.int .i64 (x.1 : Int), .string ⟨x.2.nm.toArray⟩, .string bb, .int .i64 (sy : Int)] 97)
      have hg8 : ∀ q, (Value.slice A5 K c5).ownBlock = some q → q < wr.heap.size := fun q hq => (own_at HO2.out hq).2
      change Code.wp _ _ _ _ (wr.alloc (.cells #[.int .i64 (x.1 : Int), .string ⟨x.2.nm.toArray⟩, .string bb, .int .i64 (sy : Int)] 97))
      generalize wr.alloc (.cells #[.int .i64 (x.1 : Int), .string ⟨x.2.nm.toArray⟩, .string bb, .int .i64 (sy : Int)] 97) = W1 at *
      have hg9 : w.heap.size ≤ wr.heap.size := HO.out.2.1.size
      generalize wr.heap.size = g8 at *
      have H8 := Lib.hid (And.intro hr8 (And.intro hb8 (And.intro ho8 (And.intro hg8 hg9))))
      have d0 := cell_of_row _ _ 0 _ _ _ hr8
      rw [show (#[Value.int .i64 (x.1 : Int), .string ⟨x.2.nm.toArray⟩, .string bb, .int .i64 (sy : Int)])[0]? = some (.int .i64 (x.1 : Int)) from rfl] at d0
      clear q0 q1 q2 q3 hr8 hb8 ho8 hg8 hg9
      obtain ⟨bd, hbd⟩ : ∃ bd : Bool, bd = decide (0 < i ∧ ∀ y, all[i - 1]? = some y → x.1 ≠ y.1 + 1) := ⟨_, rfl⟩
      have HBD := Lib.hid hbd
      clear hbd
      go_cut [33] (fun s33 wx => s33 = .bool bd ∧ Below W1.heap.size W1 wx)
      case first =>
        by_cases hi0 : i = 0
        · have g0 : ¬ (0 < i) := by omega
          have HBF := Lib.hid (show bd = false from by rw [HBD.out]; exact decide_eq_false (fun q => by omega))
          clear hi0 d0
          refine (wpIn_wide (n := 1)).1 ?_
          refine RegK.wpIn_region_can (F := Fence.wide) (KeptW W1) [(0, 0), (1, 0), (2, 0), (3, 0), (4, 0), (5, 0), (6, 0), (7, 0), (8, 0), (9, 0), (10, 0), (11, 0), (12, 0), (13, 0)] (by kernel_rfl) (by kernel_rfl) (by kernel_rfl) (fun _ _ d _ _ h => by cases d <;> exact h) ⟨rfl, rfl, rfl, Nat.le_refl _, fun _ _ => rfl⟩ ?_
          dsimp only [RegK.pick, List.getElem?_cons_zero, List.getElem?_cons_succ]
          change RegK.Can _ _ _ _ _ _ _ _ W1.drew
          have hkd : KeptW W1 W1.drew := ⟨rfl, rfl, rfl, Nat.le_refl _, fun _ _ => rfl⟩
          generalize W1.drew = v1 at *
          iterate 14 (refine RegK.can_reads ?_; intro K hK; go_simp; (first | refine ⟨_, fun _ _ => rfl, hK _ ?_⟩ | refine hK _ ?_); clear hK K)
          refine RegK.can_nil ?_
          go_wp2_with fail
          go_meet
          exact ⟨by rw [HBF.out], KeptW.bel hkd⟩
        · have g0 : 0 < i := by omega
          obtain ⟨j, hj⟩ : ∃ j, j = i - 1 := ⟨_, rfl⟩
          have hjl : j < all.length := by rw [← HN.out]; omega
          obtain ⟨z9, hy⟩ : ∃ y, y = all[j] := ⟨_, rfl⟩
          have hys : all[j]? = some z9 := by rw [List.getElem?_eq_getElem hjl, hy]
          have p0 := HPV.out W1 H8.out.2.1 j z9 hys
          have hyn := HS.out.2.2 z9 (by rw [hy]; exact List.getElem_mem hjl)
          have w1' : IntKind.i64.wrap ((i : Int) - 1) = (j : Int) := by rw [IntWalk.i64_in _ (by omega)]; omega
          have w2' : IntKind.i64.wrap ((z9.1 : Int) + 1) = (z9.1 : Int) + 1 := IntWalk.i64_in _ (by omega)
          have hjI : (j : Int) < (N : Int) := by omega
          have hj0 : (0 : Int) ≤ (j : Int) := by omega
          have hjn : j < N := by omega
          have HBT := Lib.hid (show bd = ((x.1 : Int) != (z9.1 : Int) + 1) from by
            rw [HBD.out, ← hj, hys]
            by_cases hq : x.1 = z9.1 + 1
            · rw [decide_eq_false (fun q => q.2 z9 rfl hq), hq]
              simp
            · rw [decide_eq_true ⟨by omega, fun z hz => by cases hz; exact hq⟩]
              symm
              rw [bne_iff_ne]
              omega)
          have HD := Lib.hid (fun (z : World) (hz : Below W1.heap.size W1 z) => (show z.cell? ⟨g8, 0, none⟩ = some (.int .i64 (x.1 : Int)) ∧ z.cell? ⟨gk, j * 4, none⟩ = some (.int .i64 (z9.1 : Int)) from ⟨cell_of_row _ _ 0 _ _ _ ((hz.block g8 (Array.getElem?_eq_some_iff.1 H8.out.1).1).trans H8.out.1), HPV.out z (H8.out.2.1.trans (hz.mono (H8.out.2.1).size)) j z9 hys⟩))
          clear hi0 hj hjl hy hys hyn d0 p0
          refine (wpIn_wide (n := 1)).1 ?_
          refine RegK.wpIn_region_can (F := Fence.wide) (KeptW W1) [(0, 0), (1, 0), (2, 0), (3, 0), (4, 0), (5, 0), (6, 0), (7, 0), (8, 0), (9, 0), (10, 0), (11, 0), (12, 0), (13, 0)] (by kernel_rfl) (by kernel_rfl) (by kernel_rfl) (fun _ _ d _ _ h => by cases d <;> exact h) ⟨rfl, rfl, rfl, Nat.le_refl _, fun _ _ => rfl⟩ ?_
          dsimp only [RegK.pick, List.getElem?_cons_zero, List.getElem?_cons_succ]
          change RegK.Can _ _ _ _ _ _ _ _ W1.drew
          have hkd : KeptW W1 W1.drew := ⟨rfl, rfl, rfl, Nat.le_refl _, fun _ _ => rfl⟩
          generalize W1.drew = v1 at *
          iterate 4 (refine RegK.can_reads ?_; intro K hK; go_simp; (first | refine ⟨_, fun _ _ => rfl, hK _ ?_⟩ | refine hK _ ?_); clear hK K)
          refine RegK.can_reads ?_
          intro K hK
          go_simp
          refine ⟨.int .i64 (x.1 : Int), fun y hy => ?_, hK _ ?_⟩
          · have c0 := (HD.out y (KeptW.bel hy)).1
            go_simp
          clear hK K
          iterate 5 (refine RegK.can_reads ?_; intro K hK; go_simp; (first | refine ⟨_, fun _ _ => rfl, hK _ ?_⟩ | refine hK _ ?_); clear hK K)
          refine RegK.can_reads ?_
          intro K hK
          go_simp
          refine ⟨.int .i64 (z9.1 : Int), fun y hy => ?_, hK _ ?_⟩
          · have c0 := (HD.out y (KeptW.bel hy)).2
            go_simp
          clear hK K
          iterate 3 (refine RegK.can_reads ?_; intro K hK; go_simp; (first | refine ⟨_, fun _ _ => rfl, hK _ ?_⟩ | refine hK _ ?_); clear hK K)
          refine RegK.can_nil ?_
          go_wp2_with fail
          go_meet
          exact ⟨by rw [HBT.out], KeptW.bel hkd⟩
      case rest =>
        obtain ⟨rfl, hb9⟩ := hcut
        have hb10 : Below w.heap.size w wc := H8.out.2.1.trans (hb9.mono H8.out.2.1.size)
        have ho10 := own_stay H8.out.2.2.1 (fun k hk hB hl => hb9.block k hl)
        have hr10 := (hb9.block g8 (Array.getElem?_eq_some_iff.1 H8.out.1).1).trans H8.out.1
        have HC := Lib.hid (And.intro hb10 (And.intro ho10 hr10))
        have HCC := Lib.hid (fun (z : World) (hz : Below wc.heap.size wc z) => (show z.cell? ⟨g8, 2, none⟩ = some (.string bb) ∧ z.cell? ⟨g8, 3, none⟩ = some (.int .i64 (sy : Int)) from ⟨cell_of_row _ _ 2 _ _ _ ((hz.block g8 (Array.getElem?_eq_some_iff.1 hr10).1).trans hr10), cell_of_row _ _ 3 _ _ _ ((hz.block g8 (Array.getElem?_eq_some_iff.1 hr10).1).trans hr10)⟩))
        clear hb9 hb10 ho10 hr10 d0
        cases bd
        case true =>
          go_wp2_with fail
          go_ret3
          exact ⟨HC.out.1, .inl ⟨⟨i, x, HX.out.1, .inl (of_decide_eq_true HBD.out.symm)⟩, rfl⟩⟩
        case false =>
          obtain ⟨d2, d3⟩ := HCC.out wc (Below.refl _ _)
          obtain ⟨M, hM⟩ : ∃ M, M = N - 1 := ⟨_, rfl⟩
          have hwN : wrap64 ((N : Int) - 1) = (M : Int) := by unfold wrap64; omega
          have HM := Lib.hid hM
          clear hM
          go_upto_region 9 with (rw [← HTB.out]; go_at_call 76; (with_reducible refine (HSP1.out _).mono ?_); rintro e w3 ⟨v3, rfl, ho3, hb3⟩; have HB3 := Lib.hid hb3; clear ho3 hb3)
          clear d2 d3
          obtain ⟨d2, d3⟩ := HCC.out w3 HB3.out
          obtain ⟨c9, hc9⟩ : ∃ c9, c9 = R1.2.2 := ⟨_, rfl⟩
          rw [← hc9]
          obtain ⟨b9, hb9⟩ : ∃ b9 : Bool, b9 = decide (c9 ≠ 0 ∨ (i + 1 < N ∧ sy < bb.size)) := ⟨_, rfl⟩
          have HB9 := Lib.hid (And.intro hb9 hc9)
          clear hb9 hc9
          go_cut [64] (fun s64 wx => s64 = .bool b9 ∧ wx = w3)
          case first =>
            by_cases hc : c9 = 0
            · have hc1 : ((c9 : Int) != 0) = false := by rw [hc]; rfl
              have HC0 := Lib.hid hc
              clear hc
              by_cases hl : i + 1 < N
              · have hl1 : i < M := by rw [HM.out]; omega
                have hl2 : (i : Int) < (N : Int) - 1 := by omega
                by_cases hs : sy < bb.size
                · have HBV := Lib.hid (show b9 = true from by rw [HB9.out.1]; exact decide_eq_true (.inr ⟨hl, hs⟩))
                  clear hl
                  go_wp2_with fail
                  go_meet
                  exact ⟨by rw [HBV.out], rfl⟩
                · have HBV := Lib.hid (show b9 = false from by rw [HB9.out.1]; exact decide_eq_false (fun q => q.elim (fun q => q HC0.out) (fun q => hs q.2)))
                  clear hl
                  go_wp2_with fail
                  go_meet
                  exact ⟨by rw [HBV.out], rfl⟩
              · have hl1 : ¬ (i < M) := by rw [HM.out]; omega
                have hl2 : ¬ ((i : Int) < (N : Int) - 1) := by omega
                have HBV := Lib.hid (show b9 = false from by rw [HB9.out.1]; exact decide_eq_false (fun q => q.elim (fun q => q HC0.out) (fun q => hl q.1)))
                clear hl
                go_wp2_with fail
                go_meet
                exact ⟨by rw [HBV.out], rfl⟩
            · have hc1 : ((c9 : Int) != 0) = true := by rw [bne_iff_ne]; omega
              have HBV := Lib.hid (show b9 = true from by rw [HB9.out.1]; exact decide_eq_true (.inl hc))
              clear hc
              go_wp2_with fail
              go_meet
              exact ⟨by rw [HBV.out], rfl⟩
          case rest =>
            obtain ⟨rfl, rfl⟩ := hcut
            cases b9
            case true =>
              go_wp2_with fail
              go_ret3
              refine ⟨HC.out.1.trans (HB3.out.mono HC.out.1.size), .inl ⟨⟨i, x, HX.out.1, .inr ?_⟩, rfl⟩⟩
              have h9 := of_decide_eq_true HB9.out.1.symm
              rw [HB9.out.2, HX.out.2.2.1] at h9
              obtain ⟨_, _, _, _, hsy, hbs⟩ := HX.out
              rw [← hsy, ← hbs, ← HN.out]
              exact h9
            case false =>
              go_upto_region 13 with (go_at_call 76; (with_reducible refine (HSP2.out _).mono ?_); rintro e w4 ⟨v4, rfl, ho4, hb4⟩
                                      have ho3 := own_stay HC.out.2.1 (fun k hk hB hl => (hb4.block k (Nat.lt_of_lt_of_le hl HB3.out.size)).trans (HB3.out.block k hl))
                                      have H4 := Lib.hid (And.intro ho3 (And.intro ho4 (And.intro (own_read ho4) (HC.out.1.trans ((HB3.out.mono HC.out.1.size).trans (hb4.mono (Nat.le_trans HC.out.1.size HB3.out.size)))))))
                                      obtain ⟨A4, c4, rfl⟩ := own_slice_of ho4
                                      clear ho3 ho4 hb4)
              have hcnt : K + R2.1.length ≤ 8000000 := by
                have h1 := recL_count (all.take (i + 1))
                have h2 := totS_take all (i + 1)
                have h3 := HXL.out.1
                rw [HX.out.2.1, recL_snoc, List.length_append, ← HK.out.1, ← HX.out.2.2.2.1] at h1
                rw [HX.out.2.1] at h2
                omega
              have HCN := Lib.hid hcnt
              have hw1 : wrap64 ((i : Int) + 1) = ((i + 1 : Nat) : Int) := by unfold wrap64; omega
              clear hcnt
              go_wp2_with (at_builtin; refine wpList_append_rd rfl _ _ 52 rfl w.heap.size 9 iS _ 1 16 Tryz.underlying52 HiS.out.1 HiS.out.2.1 HiS.out.2.2.1 HiS.out.2.2.2 rfl (by decide) _ K XS rfl H4.out.1 (.slice A4 R2.1.length c4) R2.1.length (encS R2.1) rfl (by simp [encS]) H4.out.2.2.1 (encS_one _) (by have := HCN.out; unfold maxLen; omega) (by have := HCN.out; omega) H4.out.2.2.2.size ?_; intro v5 w5 ho5 hg5 hq5; have H5 := Lib.hid (And.intro ho5 hg5); clear ho5 hg5 hq5)
              have htk := HX.out.2.1
              refine ⟨⟨i + 1, by rw [Int.natCast_add]; rfl, by omega, ?_, ?_, ?_, ?_⟩, by simp only [intOf]; omega⟩
              · rw [htk, endL_snoc, ← HX.out.2.2.2.1]
              · rw [htk, recL_snoc, List.length_append, ← HX.out.2.2.2.1, ← HK.out.1, show encS (recL (all.take i) ++ R2.1) = encS (recL (all.take i)) ++ encS R2.1 by simp [encS], ← HK.out.2.1]
                exact H5.out.1
              · exact below_grown H5.out.2 H4.out.2.2.2 H4.out.2.2.2.size (fun k e => (own_at H4.out.1 e).1)
              · intro j hj
                by_cases hji : j = i
                · subst hji
                  rintro ⟨z, hz, hbad⟩
                  rw [HX.out.1] at hz
                  injection hz with hz
                  subst hz
                  have hd := of_decide_eq_false HBD.out.symm
                  have h9 := of_decide_eq_false HB9.out.1.symm
                  rw [HB9.out.2, HX.out.2.2.1] at h9
                  obtain ⟨_, _, _, _, hsy, hbs⟩ := HX.out
                  rw [← hsy, ← hbs, ← HN.out] at hbad
                  rcases hbad with q | q
                  · exact hd q
                  · exact h9 q
                · exact HO.out.2.2 j (by omega)
    · have hiI : ¬ (i : Int) < (N : Int) := by omega
      obtain rfl : i = N := by omega
      have htk : all.take i = all := by rw [HN.out, List.take_length]
      have HE := Lib.hid (show ReadR all w (.returned (.tuple #[.slice A5 K c5, .int .i64 (E6 : Int), .bool true])) wr from by
        have h1 := HK.out
        rw [htk] at h1
        refine ⟨HO.out.2.1, .inr ⟨?_, .slice A5 K c5, ?_, ?_⟩⟩
        · rintro ⟨k, z, hz, hbad⟩
          have hk := (List.getElem?_eq_some_iff.1 hz).1
          rw [← HN.out] at hk
          exact HO.out.2.2 k hk ⟨z, hz, hbad⟩
        · rw [h1.2.2]
        · rw [← h1.2.1, ← h1.1]
          exact HO2.out)
      clear htk
      go_wp2_with fail
      go_ret3
      exact HE.out
end Go.Proofs.YtogfladmgbldcaaGreatDoor
namespace Go.Proofs.YtogfladmgbldcaaGreatDoor
open Go.RowKit Go.Shelf
abbrev Stp := FuncId × Array Value × Array Value
def stpV (f : Stp) : Value := .func (.func f.1) f.2.1 f.2.2
set_option maxRecDepth 100000 in
set_option maxHeartbeats 4000000 in
theorem steps_any (g c n : Nat) (fs : List Stp) (hn : n = fs.length) (hn9 : n ≤ 9) (I : Nat → World → Prop) (R : Int → World → Prop) (w : World) (h0 : I 0 w)
    (hE : ∀ f ∈ fs, ∀ (xs : Array Value) (y : World), (callFunc f.1 xs).run Tryz.prog y = .ok (.enter f.1 xs) y)
    (hrow : ∀ i f y, fs[i]? = some f → I i y → y.cell? ⟨g, i, none⟩ = some (stpV f))
    (hstep : ∀ i f y, fs[i]? = some f → I i y → Calls Tryz.prog f.1 (f.2.1 ++ f.2.2) y fun e w' => ∃ k : Int, e = .returned (.int .i64 k) ∧ ((k = 0 ∧ I (i + 1) w') ∨ (k ≠ 0 ∧ R k w'))) :
    Calls Tryz.prog 53 #[.slice (some ⟨g, 0, none⟩) n c] w fun e w' => ∃ k : Int, e = .returned (.int .i64 k) ∧ ((k = 0 ∧ I n w') ∨ (k ≠ 0 ∧ R k w')) := by
  have HE := Lib.hid hE
  have HR := Lib.hid hrow
  have HS := Lib.hid hstep
  have H0 := Lib.hid h0
  have HN := Lib.hid hn
  clear hE hrow hstep h0 hn
  go_enter Tryz.func53, Tryz.ntmps53
  go_wp2
  go_loopw [8] (fun s8 wr => ∃ i : Nat, s8 = .int .i64 (i : Int) ∧ i ≤ n ∧ I i wr) (fun s8 _ => n - (intOf s8).toNat)
  case atStart => exact ⟨0, rfl, Nat.zero_le _, H0.out⟩
  case round =>
    obtain ⟨i, rfl, hi, hI⟩ := hrel
    by_cases hin : i < n
    · have hiI : (i : Int) < (n : Int) := by omega
      obtain ⟨f, hf⟩ : ∃ f, f = fs[i]'(by rw [← HN.out]; exact hin) := ⟨_, rfl⟩
      have hfs : fs[i]? = some f := by rw [List.getElem?_eq_getElem (by rw [← HN.out]; exact hin), hf]
      have hent := HE.out f (by rw [hf]; exact List.getElem_mem _)
      have hcell := HR.out i f wr hfs hI
      have HF := Lib.hid (HS.out i f wr hfs hI)
      obtain ⟨fi, pre, cap⟩ := f
      have hw1 : wrap64 ((i : Int) + 1) = ((i + 1 : Nat) : Int) := by unfold wrap64; omega
      unfold stpV at hcell
      dsimp only at hent hcell HF
      clear hf hfs hI
      go_upto_region 4 with fail
      go_wp2_with fail
      refine HF.out.mono ?_
      rintro e w' ⟨k, rfl, hk⟩
      have HK := Lib.hid hk
      clear hk hcell hent
      by_cases hk0 : k = 0
      · subst hk0
        have HI := Lib.hid (show I (i + 1) w' from by
          rcases HK.out with ⟨_, h⟩ | ⟨h, _⟩
          · exact h
          · exact (h rfl).elim)
        go_wp2
        exact ⟨⟨i + 1, by rw [Int.natCast_add]; rfl, by omega, HI.out⟩, by simp only [intOf]; omega⟩
      · have hkz : (k != 0) = true := by rw [bne_iff_ne]; exact hk0
        have HX := Lib.hid (show R k w' from by
          rcases HK.out with ⟨h, _⟩ | ⟨_, h⟩
          · exact (hk0 h).elim
          · exact h)
        have HN0 := Lib.hid hk0
        clear hk0
        go_wp2
        go_ret
        exact ⟨k, rfl, .inr ⟨HN0.out, HX.out⟩⟩
    · have hiI : ¬ (i : Int) < (n : Int) := by omega
      obtain rfl : i = n := by omega
      have HI := Lib.hid hI
      clear hI
      go_wp2
      go_ret
      exact ⟨0, rfl, .inl ⟨rfl, HI.out⟩⟩
end Go.Proofs.YtogfladmgbldcaaGreatDoor
