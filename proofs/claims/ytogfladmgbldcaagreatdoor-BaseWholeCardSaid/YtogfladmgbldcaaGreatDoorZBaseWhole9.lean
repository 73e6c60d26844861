/- Disk: Turn. Condition: as each theorem says. -/
import Derived.Test.YtogfladmgbldcaaGreatDoorZBaseWhole8
import Derived.Test.YtogfladmgbldcaaGreatDoorZBaseWhole3
import Derived.Test.YtogfladmgbldcaaGreatDoorZBaseWhole4
namespace Go.Proofs.YtogfladmgbldcaaGreatDoor
open Go.RowKit Go.Shelf
attribute [local go_sem] Oper.semAt_some
/-- Turn, between its rounds. -/
structure TuI (p b n : Nat) (C : Bs → Nat) (L : List Nat) (D : DskV) (kb : Nat) (w : World) (pre : List FilV) (y : World) : Prop where
  dsk : DskAt y p b n C L D
  bit : y.heap[w.heap.size]? = some (.cells #[.int .i64 (kb : Int)] 3 (0, 0))
  res : y.heap[w.heap.size + 1]? = some (.cells #[.int .i64 0] 24 (0, 0))
  at_ : y.heap[w.heap.size + 1 + 1]? = some (.cells #[.int .i64 ((kb / 8 - totF pre : Nat) : Int)] 3 (0, 0))
  srt : y.heap[w.heap.size + 1 + 1 + 1]? = some (.cells #[.pointer (some ⟨p, 0, none⟩)] 32 (0, 0))
  tur : Turns L w y
  tot : totF pre ≤ kb / 8
  pr : pre <+: D.fs
/-- Turn, where the byte was found. -/
structure TuX (p b n : Nat) (C : Bs → Nat) (L : List Nat) (D : DskV) (kb : Nat) (w : World) (y : World) : Prop where
  dsk : DskAt y p b n C L { D with fs := turnL kb D.fs }
  res : y.heap[w.heap.size + 1]? = some (.cells #[.int .i64 0] 24 (0, 0))
  tur : Turns L w y
theorem TuI.turn {p b n : Nat} {C : Bs → Nat} {L : List Nat} {D : DskV} {kb : Nat} {w w2 : World} {pre : List FilV} {y : World} (h : TuI p b n C L D kb w pre y) (hL : ∀ g ∈ L, g < w.heap.size) (hw : w.heap.size + 4 ≤ w2.heap.size) {Y : Nat → Prop} (hY : NewY Y w2) {y' : World} {row : Option Nat} (hg : y.grownBy y' row) (hr : ∀ r, row = some r → Y r) : TuI p b n C L D kb w pre y' := by
  have hz : ∀ r, row = some r → w.heap.size + 4 ≤ r := fun r e => Nat.le_trans hw (hY r (hr r e))
  have up : ∀ {q : Nat} {o : Obj}, q < w.heap.size + 4 → y.heap[q]? = some o → y'.heap[q]? = some o := fun {q o} hq h => (hg.block _ (Array.getElem?_eq_some_iff.1 h).1 (fun e => by have := hz _ e.symm; omega)).trans h
  have hs := h.tur.size
  exact ⟨h.dsk.keep (fun g hgL => hg.block g (by have := hL g hgL; omega) (fun e => by have := hz _ e.symm; have := hL g hgL; omega)), up (by omega) h.bit, up (by omega) h.res, up (by omega) h.at_, up (by omega) h.srt, h.tur.grown hg (fun r e => by have := hz r e; omega), h.tot, h.pr⟩
theorem TuX.turn {p b n : Nat} {C : Bs → Nat} {L : List Nat} {D : DskV} {kb : Nat} {w w2 : World} {y : World} (h : TuX p b n C L D kb w y) (hL : ∀ g ∈ L, g < w.heap.size) (hw : w.heap.size + 4 ≤ w2.heap.size) {Y : Nat → Prop} (hY : NewY Y w2) {y' : World} {row : Option Nat} (hg : y.grownBy y' row) (hr : ∀ r, row = some r → Y r) : TuX p b n C L D kb w y' := by
  have hz : ∀ r, row = some r → w.heap.size + 4 ≤ r := fun r e => Nat.le_trans hw (hY r (hr r e))
  have hs := h.tur.size
  exact ⟨h.dsk.keep (fun g hgL => hg.block g (by have := hL g hgL; omega) (fun e => by have := hz _ e.symm; have := hL g hgL; omega)), (hg.block _ (Array.getElem?_eq_some_iff.1 h.res).1 (fun e => by have := hz _ e.symm; omega)).trans h.res, h.tur.grown hg (fun r e => by have := hz r e; omega)⟩
theorem TuI.next {p b n : Nat} {C : Bs → Nat} {L : List Nat} {D : DskV} {kb : Nat} {w w2 : World} {Y : Nat → Prop} {pre z : List FilV} {f : FilV} {W v2 : World} {q : Nat} {u : Int} (h : TuI p b n C L D kb w pre W) (hz : pre ++ [f] ++ z = D.fs) (hw : w.heap.size + 4 ≤ w2.heap.size) (hL : ∀ g ∈ L, g < w.heap.size) (hY : NewY Y w2)
    (hq : q = kb / 8 - totF pre) (hle : f.by_.length ≤ q) (hb : Below W.heap.size W v2) (hu : u = ((q - f.by_.length : Nat) : Int)) :
    KeptZ Y W (v2.setCell ⟨w.heap.size + 1 + 1, 0, none⟩ (.int .i64 u)) ∧ TuI p b n C L D kb w (pre ++ [f]) (v2.setCell ⟨w.heap.size + 1 + 1, 0, none⟩ (.int .i64 u)) := by
  have ll : ∀ {q : Nat} {o : Obj}, W.heap[q]? = some o → q < W.heap.size := fun h => (Array.getElem?_eq_some_iff.1 h).1
  have kp : ∀ {g : Nat}, g < W.heap.size → g ≠ w.heap.size + 1 + 1 → (v2.setCell ⟨w.heap.size + 1 + 1, 0, none⟩ (.int .i64 u)).heap[g]? = W.heap[g]? := fun {g} hl hn => (setC_other hn).trans (hb.block g hl)
  have ht : totF (pre ++ [f]) = totF pre + f.by_.length := by simp [totF]
  have htt := h.tot
  have hs := h.tur.size
  refine ⟨fun r o hr ho => (kp (ll ho) (by have := hY r hr; omega)).trans ho, ⟨h.dsk.keep (fun g hg => kp (by have := hL g hg; omega) (by have := hL g hg; omega)), (kp (ll h.bit) (by omega)).trans h.bit, (kp (ll h.res) (by omega)).trans h.res, ?_, (kp (ll h.srt) (by omega)).trans h.srt, ?_, by omega, ⟨z, hz⟩⟩⟩
  · rw [heap_setCell_same v2 (w.heap.size + 1 + 1) 0 #[.int .i64 ((kb / 8 - totF pre : Nat) : Int)] _ _ ((hb.block _ (ll h.at_)).trans h.at_), hu, show kb / 8 - totF (pre ++ [f]) = q - f.by_.length by omega]
    rfl
  · exact ⟨hb.os.trans h.tur.os, hb.tape.trans h.tur.tape, hb.output.trans h.tur.out, by have := hb.size; simp; omega, fun g hg hn => (kp (by omega) (by omega)).trans (h.tur.block g hg hn)⟩
theorem TuI.found {p b n : Nat} {C : Bs → Nat} {L : List Nat} {D : DskV} {kb : Nat} {w w2 : World} {Y : Nat → Prop} {pre z : List FilV} {f : FilV} {W v2 : World} {q c : Nat} {l2 : Bs} (h : TuI p b n C L D kb w pre W) (hz : pre ++ [f] ++ z = D.fs) (hw : w.heap.size + 4 ≤ w2.heap.size) (hL : ∀ g ∈ L, g < w.heap.size) (hY : NewY Y w2)
    (hq : q = kb / 8 - totF pre) (hle : q < f.by_.length) (hl2 : l2 = f.by_.set q (f.by_.getD q 0 ^^^ UInt8.ofNat (2 ^ (kb % 8)))) (hb : Below W.heap.size W v2) (hc : c = C f.nm) :
    KeptZ Y W ((v2.setCell ⟨c, 0, none⟩ (.string ⟨l2.toArray⟩)).setCell ⟨w.heap.size + 1, 0, none⟩ (.int .i64 0)) ∧ Code.ret = Code.ret ∧ TuX p b n C L D kb w ((v2.setCell ⟨c, 0, none⟩ (.string ⟨l2.toArray⟩)).setCell ⟨w.heap.size + 1, 0, none⟩ (.int .i64 0)) := by
  have hfm : f ∈ D.fs := by rw [← hz]; simp
  have hff := find_of h.dsk.ris hfm
  have hcl := h.dsk.cl f hfm
  have hcL : c ∈ L := by rw [hc]; exact hcl.1
  have hcs := hL c hcL
  have ll : ∀ {q : Nat} {o : Obj}, W.heap[q]? = some o → q < W.heap.size := fun h => (Array.getElem?_eq_some_iff.1 h).1
  have kp : ∀ {g : Nat}, g < W.heap.size → g ≠ w.heap.size + 1 → g ≠ c → ((v2.setCell ⟨c, 0, none⟩ (.string ⟨l2.toArray⟩)).setCell ⟨w.heap.size + 1, 0, none⟩ (.int .i64 0)).heap[g]? = W.heap[g]? := fun {g} hl hn hn2 => (setC_other hn).trans ((setC_other hn2).trans (hb.block g hl))
  have hs := h.tur.size
  have htt := h.tot
  have hfl : Crc.flip f.by_ (kb - 8 * totF pre) = l2 := by rw [flip_mod _ _ _ (by omega), hl2, hq]
  have hll : l2.length = f.by_.length := by rw [hl2, List.length_set]
  have htl : turnL kb D.fs = putF { f with by_ := l2 } D.fs := by
    have hr := h.dsk.ris
    rw [← hz, List.append_assoc] at hr ⊢
    rw [List.singleton_append] at hr ⊢
    rw [turn_app htt, put_mid (f := f) (g := { f with by_ := l2 }) rfl hr, turnL, if_pos (by omega), hfl]
  have hl3 := h.dsk.syn f hfm
  refine ⟨fun r o hr ho => (kp (ll ho) (by have := hY r hr; omega) (by have := hY r hr; omega)).trans ho, rfl, ⟨?_, ?_, ?_⟩⟩
  · refine h.dsk.upd (f := f) (f' := { f with by_ := l2 }) hff rfl htl ((kp (ll h.dsk.d) (by have := hL p h.dsk.pb.1; omega) (by rw [hc]; exact hcl.2.1.symm)).trans h.dsk.d) ?_ (fun g hg h1 h2 => kp (by have := hL g hg; omega) (by have := hL g hg; omega) (by rw [hc]; exact h2)) ?_ ?_ h.dsk.fz
    · rw [← hc, setC_other (by omega)]
      rw [heap_setCell_same v2 c 0 (filC f) _ _ ((hb.block c (by omega)).trans (by rw [hc]; exact h.dsk.c f hfm))]
      rfl
    · show f.sy ≤ l2.length
      omega
    · have h1 := (put_old (f := { f with by_ := l2 }) (g := f) h.dsk.ris hff).1
      have h2 := h.dsk.sum
      show D.room + totF (turnL kb D.fs) ≤ _
      rw [htl]
      simp only [hll] at h1
      omega
  · exact heap_setCell_same _ _ 0 #[.int .i64 0] _ _ ((setC_other (by omega)).trans ((hb.block _ (ll h.res)).trans h.res))
  · exact ⟨hb.os.trans h.tur.os, hb.tape.trans h.tur.tape, hb.output.trans h.tur.out, by have := hb.size; simp; omega, fun g hg hn => (kp (by omega) (by omega) (fun e => hn (by rw [e]; exact hcL))).trans (h.tur.block g hg hn)⟩
set_option maxRecDepth 100000 in
set_option maxHeartbeats 4000000 in
theorem turn_in {p b n : Nat} {C : Bs → Nat} {L : List Nat} {D : DskV} (kb : Nat) (hkb : kb < 8 * totF D.fs) (hlen : D.fs.length ≤ 1000000) (w : World) (h : DskAt w p b n C L D) (hL : ∀ g ∈ L, g < w.heap.size) (hdd : D.dead = true) :
    CallsIn Fence.wide 9 Tryz.prog 25 #[.pointer (some ⟨p, 0, none⟩), .int .i64 (kb : Int)] w fun e w' => e = .returned (.int .i64 0) ∧ DskAt w' p b n C L { D with fs := turnL kb D.fs } ∧ Turns L w w' := by
  have hk9 : kb < 33554432 := by have := h.sum; omega
  obtain ⟨q0, q1, q2, q3⟩ := h.cells
  rw [hdd] at q3
  have hpl := h.lt
  have hb2 := ((Below.refl _ w).alloc (Nat.le_refl _) (.cells #[.int .i64 (kb : Int)] 3)).alloc (by simp) (.cells #[.int .i64 0] 24)
  have q3' := (World.cell?_of_block (hb2.block p hpl)).trans q3
  have H := Lib.hid h
  have HL := Lib.hid hL
  have HB2 := Lib.hid hb2
  have hkn : decide ((kb : Int) < 0) = false := decide_eq_false (by omega)
  clear h hL q0 q1 q2 hpl hb2
  refine callsIn_of_wp_marks Tryz.func25 rfl trivial ?_ rfl
  simp only [Tryz.ntmps25, List.size_toArray, List.length_cons, List.length_nil, Nat.reduceAdd, Nat.reduceSub, Array.replicate_succ, Array.replicate_zero, List.push_toArray, List.append_toArray, List.nil_append, List.cons_append]
  gi_wp2_with (first
    | (refine ⟨trivial, ?_⟩; refine (callsIn_wide.2 (sorted_any p _)).mono ?_; rintro e w2 ⟨rfl, hbx, hb2⟩; dsimp only)
    | gi_in)
  have r3 := (HB2.out.block w.heap.size)
  obtain ⟨E3, hE3⟩ : ∃ E3, E3 = (((w.alloc (.cells #[.int .i64 (kb : Int)] 3)).alloc (.cells #[.int .i64 0] 24)).alloc (.cells #[.int .i64 ((kb : Int) / 8)] 3)) := ⟨_, rfl⟩
  have e3 : E3.heap.size = w.heap.size + 1 + 1 + 1 := by rw [hE3]; simp
  have b3 : Below w.heap.size w E3 := by rw [hE3]; exact HB2.out.alloc (by simp; omega) _
  have x3 : E3.heap[w.heap.size]? = some (.cells #[.int .i64 (kb : Int)] 3 (0, 0)) := by
    rw [hE3, heap_alloc_old _ _ (by simp; omega), heap_alloc_old _ _ (by simp)]
    exact heap_alloc_new _ _
  have x4 : E3.heap[w.heap.size + 1]? = some (.cells #[.int .i64 0] 24 (0, 0)) := by
    rw [hE3, heap_alloc_old _ _ (by simp)]
    have h := heap_alloc_new (w.alloc (.cells #[.int .i64 (kb : Int)] 3)) (.cells #[.int .i64 0] 24)
    rwa [World.size_alloc] at h
  have x5 : E3.heap[w.heap.size + 1 + 1]? = some (.cells #[.int .i64 ((kb / 8 - totF [] : Nat) : Int)] 3 (0, 0)) := by
    have h := heap_alloc_new ((w.alloc (.cells #[.int .i64 (kb : Int)] 3)).alloc (.cells #[.int .i64 0] 24)) (.cells #[.int .i64 ((kb : Int) / 8)] 3)
    rw [World.size_alloc, World.size_alloc] at h
    rw [hE3, h, show ((kb / 8 - totF [] : Nat) : Int) = (kb : Int) / 8 by simp [totF]]
  rw [← hE3] at hbx hb2 ⊢
  rw [e3] at hbx hb2 ⊢
  have bA := b3.trans (hb2.mono (by omega))
  have hz2 : w.heap.size + 4 ≤ w2.heap.size := (Array.getElem?_eq_some_iff.1 hbx).1
  have hD2 := H.out.below bA
  have HI0 := Lib.hid (show TuI p b n C L D kb w [] w2 from ⟨hD2, (hb2.block _ (by omega)).trans x3, (hb2.block _ (by omega)).trans x4, (hb2.block _ (by omega)).trans x5, hbx, Turns.of bA, Nat.zero_le _, List.nil_prefix⟩)
  have HZ := Lib.hid hz2
  clear r3 x3 x4 x5 hb2 b3 e3 bA hE3 q3 q3'
  clear E3
  refine wpIn_rangeY rfl (by decide) (gf := 72) (lb := #[.pointer (some ⟨w.heap.size + 1 + 1 + 1, 0, none⟩)]) rfl trivial (enters_of Tryz.func72 (by kernel_rfl) rfl)
    (sorted_stops _ (w.heap.size + 1 + 1 + 1) p b n C L D hlen w2 hD2 hbx) (Below.refl _ _) (fun _ => rfl)
    (fun Y pre W' => TuI p b n C L D kb w pre W') (fun Y c pre W' => c = .ret ∧ TuX p b n C L D kb w W')
    (fun Y hY s A B row hs hg hr => hs.turn HL.out HZ.out hY hg hr) (fun Y hY c s A B row hs hg hr => ⟨hs.1, hs.2.turn HL.out HZ.out hY hg hr⟩) (fun Y pre W' hI => ?hRd) (fun Y _ => HI0.out)
    (fun f => { tmps := List.toArray (.pointer (some ⟨p, 0, none⟩) :: .int .i64 (kb : Int) :: undef :: .pointer (some ⟨w.heap.size, 0, none⟩) :: .pointer (some ⟨w.heap.size + 1, 0, none⟩) :: .pointer (some ⟨w.heap.size + 1 + 1, 0, none⟩) :: undef :: .pointer (some ⟨C f.nm, 0, none⟩) :: undef :: .pointer (some ⟨p, 0, none⟩) :: .bool false :: .pointer (some ⟨p, 0, none⟩) :: .pointer (some ⟨p, 0, none⟩) :: .pointer (some ⟨p, 3, none⟩) :: .bool true :: .bool false :: .bool false :: .int .i64 (kb : Int) :: .bool false :: .bool false :: .int .i64 (kb : Int) :: .int .i64 ((kb : Int) / 8) :: .pointer (some ⟨p, 0, none⟩) :: .func (.func 72) #[] #[.pointer (some ⟨w.heap.size + 1 + 1 + 1, 0, none⟩)] :: .string ⟨f.nm.toArray⟩ :: .pointer (some ⟨C f.nm, 0, none⟩) :: undef :: undef :: undef :: undef :: undef :: undef :: undef :: undef :: undef :: undef :: undef :: undef :: undef :: undef :: undef :: undef :: undef :: undef :: undef :: undef :: undef :: undef :: undef :: undef :: undef :: undef :: undef :: undef :: undef :: undef :: undef :: undef :: undef :: []), defers := [] }) ?assign ?body ?done ?stop
  case hRd =>
    exact ⟨hI.srt, hI.dsk.cells.1, hI.dsk.m⟩
  case assign =>
    intro l' f W' K hK
    simp only [encF]
    gi_wp2
    exact hK
  case done =>
    rintro Y ys W hY hYw rfl hI hK
    have := hI.tot
    omega
  case stop =>
    rintro Y c pre W hY hYw hSp ⟨rfl, hX⟩ hK
    have HX0 := Lib.hid hX
    have c4 : W.cell? ⟨w.heap.size + 1, 0, none⟩ = some (.int .i64 0) := cell_of_row _ _ _ _ _ _ hX.res
    have hIT := HX0.out.turn HL.out HZ.out hY (grownBy_putObj' W w2.heap.size (.deferred none)) (fun r e => by cases e; exact hYw)
    have hfin : (W.putObj w2.heap.size (.deferred none)).cell? ⟨w.heap.size + 1, 0, none⟩ = some (.int .i64 0) := cell_of_row _ _ _ _ _ _ hIT.res
    have HT := Lib.hid hIT
    clear hIT hX
    gi_wp2
    refine ⟨by simp, .inl ⟨_, _, rfl, run_takeDeferred hK, ?_⟩⟩
    refine ⟨.int .i64 0, ?_, rfl, HT.out.dsk, HT.out.tur⟩
    simp [results, Tryz.results25, go_sem, hfin] <;> rfl
  case body =>
    rintro l' Y pre f W hY hYl hI hSp
    obtain ⟨z, hzz⟩ := hSp
    have hfm : f ∈ D.fs := by rw [← hzz]; simp
    have hfc := hI.dsk.c f hfm
    have hcl := hI.dsk.cl f hfm
    have hz : (⟨f.by_.toArray⟩ : ByteArray).size = f.by_.length := by simp [ByteArray.size]
    have hlt : f.by_.length ≤ 4194304 := by
      have h1 := put_old (f := { f with by_ := [] }) (g := f) hI.dsk.ris (find_of hI.dsk.ris hfm)
      have h2 := h1.1
      have h3 := hI.dsk.sum
      simp at h2
      omega
    obtain ⟨q, hq⟩ : ∃ q, q = kb / 8 - totF pre := ⟨_, rfl⟩
    have hat := hI.at_
    rw [← hq] at hat
    have HC := Lib.hid (fun (y : World) (hy : Below W.heap.size W y) => (show y.cell? ⟨w.heap.size, 0, none⟩ = some (.int .i64 (kb : Int)) ∧ y.cell? ⟨w.heap.size + 1 + 1, 0, none⟩ = some (.int .i64 (q : Int)) ∧ y.cell? ⟨C f.nm, 0, none⟩ = some (.string ⟨f.by_.toArray⟩) ∧ y.cell? ⟨w.heap.size + 1, 0, none⟩ = some (.int .i64 0) from
      ⟨cell_of_row _ _ _ _ _ _ ((hy.block _ (Array.getElem?_eq_some_iff.1 hI.bit).1).trans hI.bit), cell_of_row _ _ _ _ _ _ ((hy.block _ (Array.getElem?_eq_some_iff.1 hat).1).trans hat), cell_of_row _ _ _ _ _ _ ((hy.block _ (Array.getElem?_eq_some_iff.1 hfc).1).trans hfc), cell_of_row _ _ _ _ _ _ ((hy.block _ (Array.getElem?_eq_some_iff.1 hI.res).1).trans hI.res)⟩))
    have hxl : (⟨f.by_.toArray⟩ : ByteArray).data.toList = f.by_ := rfl
    obtain ⟨x, hx⟩ : ∃ x : ByteArray, x = ⟨f.by_.toArray⟩ := ⟨_, rfl⟩
    rw [← hx] at hz HC hxl
    obtain ⟨c, hc⟩ : ∃ c, c = C f.nm := ⟨_, rfl⟩
    rw [← hc] at HC hfc hcl ⊢
    have HI := Lib.hid (And.intro hI (And.intro hfc (And.intro hcl (And.intro hzz (And.intro hat hfm)))))
    have HS := Lib.hid (And.intro hq (And.intro hz (And.intro hlt (And.intro hxl (And.intro hx hc)))))
    have HY := Lib.hid (And.intro hY hYl)
    clear hI hzz hfm hfc hcl hz hlt hat hx hxl hc hq hY hYl
    refine wpIn_block ?_
    refine wpIn_seq_k ?_
    intro QQ hQQ
    refine wpIn_seq_k ?_
    intro Q3 hQ3
    refine RegK.wpIn_region_can (F := (Fence.wide.inRound l')) (KeptW W) [(0, 0), (1, 0), (2, 0), (3, 0), (4, 0), (5, 0), (6, 0)] (by kernel_rfl) (by kernel_rfl) (by kernel_rfl) (fun _ _ d _ _ h => by cases d <;> exact h) ⟨rfl, rfl, rfl, Nat.le_refl _, fun _ _ => rfl⟩ ?_
    dsimp only [RegK.pick, List.getElem?_cons_zero, List.getElem?_cons_succ]
    change RegK.Can _ _ _ _ _ _ _ _ W.drew
    have hkd : KeptW W W.drew := ⟨rfl, rfl, rfl, Nat.le_refl _, fun _ _ => rfl⟩
    generalize W.drew = v1 at *
    refine RegK.can_reads ?_
    intro K hK
    go_simp
    refine ⟨.int .i64 (q : Int), fun y hy => ?_, hK _ ?_⟩
    · obtain ⟨c1, c2, c3, c4⟩ := HC.out y (KeptW.bel hy)
      go_simp
    clear hK K
    iterate 3 (refine RegK.can_reads ?_; intro K hK; go_simp; (first | refine ⟨_, fun _ _ => rfl, hK _ ?_⟩ | refine hK _ ?_); clear hK K)
    refine RegK.can_reads ?_
    intro K hK
    go_simp
    refine ⟨.string x, fun y hy => ?_, hK _ ?_⟩
    · obtain ⟨c1, c2, c3, c4⟩ := HC.out y (KeptW.bel hy)
      go_simp
    clear hK K
    iterate 2 (refine RegK.can_reads ?_; intro K hK; go_simp; (first | refine ⟨_, fun _ _ => rfl, hK _ ?_⟩ | refine hK _ ?_); clear hK K)
    refine RegK.can_nil ?_
    refine hQ3 _ _ ?_
    clear hQ3 Q3
    obtain ⟨c1, c2, c3, c4⟩ := HC.out v1 (KeptW.bel hkd)
    have HK1 := Lib.hid (KeptW.bel hkd)
    have hconv := fun (w : World) => run_bytes_of_string (P := Tryz.prog) w 9 42 5 x Tryz.underlying9 Tryz.underlying42 Tryz.underlying5
    clear hkd
    by_cases hqx : q < x.size
    · have hqd : decide ((q : Int) < (x.size : Int)) = true := decide_eq_true (by omega)
      gi_wp2
      generalize grownCap v1 x.size 0 5 = cap
      obtain ⟨W1, hW1⟩ : ∃ W1, W1 = (v1.alloc (Obj.cells (bytesRow x cap) 5 ((bytesRow x cap).size, (bytesRow x cap).size + 1))).drew := ⟨_, rfl⟩
      have hrow : ByteRow W1 v1.heap.size x.data.toList := by rw [hW1]; exact (ByteRow.of_string v1 x cap _).drew
      have hbel : Below v1.heap.size v1 W1 := by rw [hW1]; exact ((Below.refl _ _).alloc (Nat.le_refl _) _).drew
      have hsz : v1.heap.size < W1.heap.size := by rw [hW1]; simp
      rw [← hW1]
      clear hW1 c1 c2 c3 c4 hconv
      have HB := Lib.hid (And.intro (HK1.out.trans (hbel.mono HK1.out.size)) (And.intro hsz HK1.out.size))
      clear hbel hsz
      generalize v1.heap.size = g at *
      have HROW := Lib.hid hrow
      obtain ⟨r, hr⟩ : ∃ r, kb % 8 = r := ⟨_, rfl⟩
      have hr' : r < 8 := by omega
      have e3 : (kb : Int).tmod 8 = (r : Int) := by rw [Int.tmod_eq_emod_of_nonneg (by omega)]; omega
      have hql : q < x.data.toList.length := by rw [Array.length_toList]; exact hqx
      obtain ⟨v, hv⟩ : ∃ v, v = x.data.toList.getD q 0 := ⟨_, rfl⟩
      have HVE := Lib.hid (show ∀ h : q < x.data.toList.length, x.data.toList[q]'h = v from fun h => by rw [hv, List.getD_eq_getElem?_getD, List.getElem?_eq_getElem h]; rfl)
      have HV := Lib.hid (And.intro hr hv)
      have HC1 := Lib.hid (fun (y : World) (hy : Below W1.heap.size W1 y) => (show y.cell? ⟨w.heap.size, 0, none⟩ = some (.int .i64 (kb : Int)) ∧ y.cell? ⟨w.heap.size + 1 + 1, 0, none⟩ = some (.int .i64 (q : Int)) ∧ y.cell? ⟨g, q, none⟩ = some (.int .u8 (v.toNat : Int)) from by
        obtain ⟨c1, c2, c3, c4⟩ := HC.out y (HB.out.1.trans (hy.mono HB.out.1.size))
        refine ⟨c1, c2, ?_⟩
        rw [← HVE.out hql]
        exact (World.cell?_of_block (hy.block g HB.out.2.1)).trans (HROW.out q hql).1))
      clear hrow hr hv hql
      refine RegK.wpIn_region_can (F := (Fence.wide.inRound l')) (KeptW W1) [(0, 0), (1, 0), (2, 0), (3, 0), (4, 0), (5, 0), (6, 0), (7, 0), (8, 0), (9, 3)] (by kernel_rfl) (by kernel_rfl) (by kernel_rfl) (fun _ _ d _ _ h => by cases d <;> exact h) ⟨rfl, rfl, rfl, Nat.le_refl _, fun _ _ => rfl⟩ ?_
      dsimp only [RegK.pick, List.getElem?_cons_zero, List.getElem?_cons_succ]
      change RegK.Can _ _ _ _ _ _ _ _ W1.drew
      have hkd : KeptW W1 W1.drew := ⟨rfl, rfl, rfl, Nat.le_refl _, fun _ _ => rfl⟩
      generalize W1.drew = v2 at *
      refine RegK.can_reads ?_; intro K hK; go_simp; (first | refine ⟨_, fun _ _ => rfl, hK _ ?_⟩ | refine hK _ ?_); clear hK K
      refine RegK.can_reads ?_
      intro K hK
      go_simp
      refine ⟨.int .i64 (q : Int), fun y hy => ?_, hK _ ?_⟩
      · obtain ⟨c1, c2, c3⟩ := HC1.out y (KeptW.bel hy)
        go_simp
      clear hK K
      refine RegK.can_reads ?_; intro K hK; go_simp; (first | refine ⟨_, fun _ _ => rfl, hK _ ?_⟩ | refine hK _ ?_); clear hK K
      refine RegK.can_reads ?_
      intro K hK
      go_simp
      refine ⟨.int .u8 (v.toNat : Int), fun y hy => ?_, hK _ ?_⟩
      · obtain ⟨c1, c2, c3⟩ := HC1.out y (KeptW.bel hy)
        go_simp
      clear hK K
      refine RegK.can_reads ?_
      intro K hK
      go_simp
      refine ⟨.int .i64 (kb : Int), fun y hy => ?_, hK _ ?_⟩
      · obtain ⟨c1, c2, c3⟩ := HC1.out y (KeptW.bel hy)
        go_simp
      clear hK K
      iterate 4 (refine RegK.can_reads ?_; intro K hK; go_simp; (first | refine ⟨_, fun _ _ => rfl, hK _ ?_⟩ | refine hK _ ?_); clear hK K)
      have HKD := Lib.hid (KeptW.bel hkd)
      have HR2 := Lib.hid (show ByteRow v2 g x.data.toList from fun j hj => by
        have h1 := HROW.out j hj
        have h2 := HKD.out.block g HB.out.2.1
        refine ⟨(World.cell?_of_block h2).trans h1.1, ?_⟩
        have h3 := h1.2
        unfold World.frozen? at h3 ⊢
        rw [h2]
        exact h3)
      have hb9 := HR2.out q (by rw [Array.length_toList]; exact hqx)
      rw [HVE.out] at hb9
      obtain ⟨hbc, hbf⟩ := hb9
      clear hkd
      refine RegK.can_frees (fun _ => trivial) ?_
      intro K K0 hK hK0
      go_simp
      refine hK (fun _ => True) _ _ trivial ?_
      clear hK K hK0 K0 hbc hbf
      refine RegK.can_nil ?_
      rw [show IntKind.u8.wrap ((2 : Int) ^ r) = 2 ^ r % 256 from IntKind.wrap_u8' _, Crc.xor_u8 v r hr']
      have hnr : ByteRow (v2.setCell ⟨g, q, none⟩ (.int .u8 ((v ^^^ UInt8.ofNat (2 ^ r)).toNat : Int))) g (x.data.toList.set q (v ^^^ UInt8.ofNat (2 ^ r))) := ByteRow.set HR2.out _ rfl
      have hbk : ∀ k, k < W.heap.size → (v2.setCell ⟨g, q, none⟩ (.int .u8 ((v ^^^ UInt8.ofNat (2 ^ r)).toNat : Int))).heap[k]? = W.heap[k]? := fun k hk => (setC_other (by have := HB.out.2.2; omega)).trans ((HKD.out.block k (Nat.lt_of_lt_of_le hk HB.out.1.size)).trans (HB.out.1.block k hk))
      have hbw : Below W.heap.size W (v2.setCell ⟨g, q, none⟩ (.int .u8 ((v ^^^ UInt8.ofNat (2 ^ r)).toNat : Int))) := (HB.out.1.trans (HKD.out.mono HB.out.1.size)).setCell (p := ⟨g, q, none⟩) HB.out.2.2 _
      generalize v2.setCell ⟨g, q, none⟩ (.int .u8 ((v ^^^ UInt8.ofNat (2 ^ r)).toNat : Int)) = W2 at *
      obtain ⟨l2, hl2⟩ : ∃ l2, l2 = x.data.toList.set q (v ^^^ UInt8.ofNat (2 ^ r)) := ⟨_, rfl⟩
      rw [← hl2] at hnr
      have hbs := hnr.string (P := Tryz.prog) 42 9 5 (n := x.size) (cap := cap) (by rw [hl2, List.length_set, Array.length_toList]; rfl) Tryz.underlying42 Tryz.underlying5 Tryz.underlying9
      have f0 := (hbk c (Array.getElem?_eq_some_iff.1 HI.out.2.1).1).trans HI.out.2.1
      have f1 := cell_of_row _ _ 0 _ _ _ f0
      rw [show (filC f)[0]? = some (.string (⟨f.by_.toArray⟩ : ByteArray)) from rfl] at f1
      have f2 := thaw0 0 f0
      have p0 := (hbk _ (Array.getElem?_eq_some_iff.1 HI.out.1.res).1).trans HI.out.1.res
      have hne : w.heap.size + 1 ≠ c := fun e => by have := HL.out c HI.out.2.2.1.1; omega
      have p1 : (W2.setCell ⟨c, 0, none⟩ (.string ⟨l2.toArray⟩)).heap[w.heap.size + 1]? = _ := (setC_other hne).trans p0
      have p2 := cell_of_row _ _ 0 _ _ _ p1
      rw [show (#[Value.int .i64 0] : Array Value)[0]? = some (.int .i64 0) from rfl] at p2
      have p3 := thaw0 0 p1
      have HF := Lib.hid (And.intro hbw (And.intro hl2 (And.intro f0 p1)))
      clear hbw hl2 f0 p0 p1 hnr hbk hne
      gi_wp2
      have hl3 := HF.out.2.1
      have hS := HS.out
      exact HI.out.1.found HI.out.2.2.2.1 HZ.out HL.out HY.out.1 hS.1 (by rw [hS.2.1] at hqx; exact hqx) (by rw [hl3, (HV.out).1, (HV.out).2, hS.2.2.2.1]) HF.out.1 hS.2.2.2.2.2
    · have hqd : decide ((q : Int) < (x.size : Int)) = false := decide_eq_false (by omega)
      gi_wp2
      have HC1 := Lib.hid (fun (y : World) (hy : Below v1.heap.size v1 y) => HC.out y (HK1.out.trans (hy.mono HK1.out.size)))
      have xw1 : IntKind.i64.wrap ((q : Int) - (x.size : Int)) = ((q - x.size : Nat) : Int) := by
        have := HS.out.1
        rw [IntWalk.i64_in _ (by omega)]
        omega
      clear c1 c2 c3 c4 hconv
      refine RegK.wpIn_region_can (F := (Fence.wide.inRound l')) (KeptW v1) [(0, 0), (1, 0), (2, 0), (3, 0), (4, 0), (5, 0), (6, 0), (7, 3)] (by kernel_rfl) (by kernel_rfl) (by kernel_rfl) (fun _ _ d _ _ h => by cases d <;> exact h) ⟨rfl, rfl, rfl, Nat.le_refl _, fun _ _ => rfl⟩ ?_
      dsimp only [RegK.pick, List.getElem?_cons_zero, List.getElem?_cons_succ]
      change RegK.Can _ _ _ _ _ _ _ _ v1.drew
      have hkd : KeptW v1 v1.drew := ⟨rfl, rfl, rfl, Nat.le_refl _, fun _ _ => rfl⟩
      generalize v1.drew = v2 at *
      refine RegK.can_reads ?_
      intro K hK
      go_simp
      refine ⟨.int .i64 (q : Int), fun y hy => ?_, hK _ ?_⟩
      · obtain ⟨c1, c2, c3, c4⟩ := HC1.out y (KeptW.bel hy)
        go_simp
      clear hK K
      iterate 3 (refine RegK.can_reads ?_; intro K hK; go_simp; (first | refine ⟨_, fun _ _ => rfl, hK _ ?_⟩ | refine hK _ ?_); clear hK K)
      refine RegK.can_reads ?_
      intro K hK
      go_simp
      refine ⟨.string x, fun y hy => ?_, hK _ ?_⟩
      · obtain ⟨c1, c2, c3, c4⟩ := HC1.out y (KeptW.bel hy)
        go_simp
      clear hK K
      iterate 2 (refine RegK.can_reads ?_; intro K hK; go_simp; (first | refine ⟨_, fun _ _ => rfl, hK _ ?_⟩ | refine hK _ ?_); clear hK K)
      obtain ⟨c1, c2, c3, c4⟩ := HC1.out v2 (KeptW.bel hkd)
      have tf := thaw0 0 (((HK1.out.trans ((KeptW.bel hkd).mono HK1.out.size)).block _ (Array.getElem?_eq_some_iff.1 HI.out.2.2.2.2.1).1).trans HI.out.2.2.2.2.1)
      refine RegK.can_frees (fun _ => trivial) ?_
      intro K K0 hK hK0
      go_simp
      refine hK (fun _ => True) _ _ trivial ?_
      clear hK K hK0 K0 c1 c2 c3 c4 tf
      refine RegK.can_nil ?_
      have hS := HS.out
      exact HI.out.1.next HI.out.2.2.2.1 HZ.out HL.out HY.out.1 hS.1 (by rw [← hS.2.1]; omega) (HK1.out.trans ((KeptW.bel hkd).mono HK1.out.size)) (by rw [hS.2.1])
end Go.Proofs.YtogfladmgbldcaaGreatDoor
namespace Go.Proofs.YtogfladmgbldcaaGreatDoor
open Go.RowKit Go.Shelf
theorem takeF_len (s : Bs) : (takeF s).1.length ≤ s.length := by
  have h1 : (rdF s).2.s.length ≤ s.length := by
    unfold rdF
    split
    · rw [fail_s]; exact below_len _ _
    · exact below_len _ _
  unfold takeF
  split
  · simp
  · split
    · simp
    · split
      · simp
      · simp only [List.length_take, List.length_drop]
        omega
/-- The reader behind a base's inside. -/
def rdB (x : Bs) : RdV := ((RdV.mk 0 x).num.2.str 65536).2.end_
/-- How a base's file is (0 young, 1 good, 2 spoilt), and its text. -/
def lookD (n : Nat) (f : FilV) : Nat × Bs :=
  if f.sy = 0 then (0, []) else if (takeF f.by_).2.2 ≠ 0 ∨ (takeF f.by_).2.1 ≠ f.by_.length ∨ f.sy ≠ (takeF f.by_).2.1 then (2, [])
  else if (rdB (takeF f.by_).1).e ≠ 0 ∨ (RdV.mk 0 (takeF f.by_).1).num.1 ≠ n then (2, []) else (1, ((RdV.mk 0 (takeF f.by_).1).num.2.str 65536).1)
set_option maxRecDepth 100000 in
set_option maxHeartbeats 8000000 in
theorem look_any (n : Nat) (f : FilV) (hl : f.by_.length ≤ 100000000) (_ : f.sy ≤ 100000000) (w : World) :
    Calls Tryz.prog 36 #[.int .u64 (n : Int), .agg (filE f).toArray] w fun e w' => e = .returned (.tuple #[.int .i64 ((lookD n f).1 : Int), .string ⟨(lookD n f).2.toArray⟩]) ∧ Below w.heap.size w w' := by
  have hbx := (Below.refl w.heap.size w).alloc (Nat.le_refl _) (.cells (filE f).toArray 35)
  have hro : (w.alloc (.cells (filE f).toArray 35)).heap[w.heap.size]? = some (.cells (filE f).toArray 35 (0, 0)) := heap_alloc_new _ _
  obtain ⟨x, hx⟩ : ∃ x : ByteArray, x = ⟨f.by_.toArray⟩ := ⟨_, rfl⟩
  have hxs : x.size = f.by_.length := by rw [hx]; simp [ByteArray.size]
  obtain ⟨nm, hnm⟩ : ∃ nm : ByteArray, nm = ⟨f.nm.toArray⟩ := ⟨_, rfl⟩
  have hfe : filE f = [.string nm, .string x, .int .i64 (f.sy : Int)] := by rw [hx, hnm]; rfl
  rw [hfe] at hbx hro ⊢
  have k1 := cell_of_row _ _ 1 _ _ _ hro
  have k2 := cell_of_row _ _ 2 _ _ _ hro
  rw [show ([Value.string nm, .string x, .int .i64 (f.sy : Int)].toArray)[1]? = some (.string x) from rfl] at k1
  rw [show ([Value.string nm, .string x, .int .i64 (f.sy : Int)].toArray)[2]? = some (.int .i64 (f.sy : Int)) from rfl] at k2
  have HB := Lib.hid hbx
  have HT := Lib.hid (show ∀ y : World, Calls Tryz.prog 62 #[.string x] y _ from fun y => by rw [hx]; exact ftake_any f.by_ hl y)
  obtain ⟨lk, hlk⟩ : ∃ lk, lk = lookD n f := ⟨_, rfl⟩
  rw [← hlk]
  unfold lookD at hlk
  clear hbx hro hx hnm hfe
  obtain ⟨T, hT⟩ : ∃ T, T = takeF f.by_ := ⟨_, rfl⟩
  have hTl : T.1.length ≤ maxLen := by have h := takeF_len f.by_; rw [← hT] at h; unfold maxLen; omega
  rw [← hT] at HT hlk
  clear hT
  by_cases h0 : f.sy = 0
  · rw [if_pos h0] at hlk
    have HL := Lib.hid hlk
    have hz : ((f.sy : Int) == 0) = true := by rw [h0]; rfl
    clear hlk h0
    go_enter Tryz.func36, Tryz.ntmps36
    go_upto_region 1 with fail
    change Code.wp _ _ _ _ (w.alloc (.cells [Value.string nm, .string x, .int .i64 (f.sy : Int)].toArray 35))
    generalize w.alloc (.cells [Value.string nm, .string x, .int .i64 (f.sy : Int)].toArray 35) = w1 at *
    go_wp2
    go_ret2
    rw [HL.out]
    exact ⟨rfl, HB.out⟩
  · rw [if_neg h0] at hlk
    have hz : ((f.sy : Int) == 0) = false := by rw [beq_eq_false_iff_ne]; omega
    clear h0
    by_cases h1 : T.2.2 ≠ 0
    · rw [if_pos (.inl h1)] at hlk
      have HL := Lib.hid hlk
      have hz1 : ((T.2.2 : Int) != 0) = true := by rw [bne_iff_ne]; omega
      clear hlk h1
      go_enter Tryz.func36, Tryz.ntmps36
      go_upto_region 1 with fail
      change Code.wp _ _ _ _ (w.alloc (.cells [Value.string nm, .string x, .int .i64 (f.sy : Int)].toArray 35))
      generalize w.alloc (.cells [Value.string nm, .string x, .int .i64 (f.sy : Int)].toArray 35) = w1 at *
      go_upto_region 4 with ((with_reducible refine (HT.out _).mono ?_); rintro e w2 ⟨rfl, hb2⟩; have HB2 := Lib.hid hb2; have k1 := (World.cell?_of_block (hb2.block w.heap.size (cell_lt k1))).trans k1; have k2 := (World.cell?_of_block (hb2.block w.heap.size (cell_lt k2))).trans k2; clear hb2)
      go_wp2
      go_ret2
      rw [HL.out]
      exact ⟨rfl, HB.out.trans (HB2.out.mono HB.out.size)⟩
    · have hz1 : ((T.2.2 : Int) != 0) = false := by rw [bne_eq_false_iff_eq]; omega
      by_cases h2 : T.2.1 ≠ f.by_.length
      · rw [if_pos (.inr (.inl h2))] at hlk
        have HL := Lib.hid hlk
        have hz2 : ((T.2.1 : Int) != (f.by_.length : Int)) = true := by rw [bne_iff_ne]; omega
        clear hlk h1 h2
        go_enter Tryz.func36, Tryz.ntmps36
        go_upto_region 1 with fail
        change Code.wp _ _ _ _ (w.alloc (.cells [Value.string nm, .string x, .int .i64 (f.sy : Int)].toArray 35))
        generalize w.alloc (.cells [Value.string nm, .string x, .int .i64 (f.sy : Int)].toArray 35) = w1 at *
        go_upto_region 4 with ((with_reducible refine (HT.out _).mono ?_); rintro e w2 ⟨rfl, hb2⟩; have HB2 := Lib.hid hb2; have k1 := (World.cell?_of_block (hb2.block w.heap.size (cell_lt k1))).trans k1; have k2 := (World.cell?_of_block (hb2.block w.heap.size (cell_lt k2))).trans k2; clear hb2)
        go_wp2
        go_ret2
        rw [HL.out]
        exact ⟨rfl, HB.out.trans (HB2.out.mono HB.out.size)⟩
      · have hz2 : ((T.2.1 : Int) != (f.by_.length : Int)) = false := by rw [bne_eq_false_iff_eq]; omega
        by_cases h3 : f.sy ≠ T.2.1
        · rw [if_pos (.inr (.inr h3))] at hlk
          have HL := Lib.hid hlk
          have hz3 : ((f.sy : Int) != (T.2.1 : Int)) = true := by rw [bne_iff_ne]; omega
          clear hlk h1 h2 h3
          go_enter Tryz.func36, Tryz.ntmps36
          go_upto_region 1 with fail
          change Code.wp _ _ _ _ (w.alloc (.cells [Value.string nm, .string x, .int .i64 (f.sy : Int)].toArray 35))
          generalize w.alloc (.cells [Value.string nm, .string x, .int .i64 (f.sy : Int)].toArray 35) = w1 at *
          go_upto_region 4 with ((with_reducible refine (HT.out _).mono ?_); rintro e w2 ⟨rfl, hb2⟩; have HB2 := Lib.hid hb2; have k1 := (World.cell?_of_block (hb2.block w.heap.size (cell_lt k1))).trans k1; have k2 := (World.cell?_of_block (hb2.block w.heap.size (cell_lt k2))).trans k2; clear hb2)
          go_wp2
          go_ret2
          rw [HL.out]
          exact ⟨rfl, HB.out.trans (HB2.out.mono HB.out.size)⟩
        · have hz3 : ((f.sy : Int) != (T.2.1 : Int)) = false := by rw [bne_eq_false_iff_eq]; omega
          rw [if_neg (by omega)] at hlk
          clear h1 h2 h3
          have hof := fun y : World => of_any1 T.1 hTl y
          have Hof := Lib.hid hof
          have HNum := Lib.hid (fun (g : Nat) (y : World) (hy : RdAt y g ⟨0, T.1⟩) => rnumber_any ⟨0, T.1⟩ g y hy)
          obtain ⟨N, hN⟩ : ∃ N, N = (RdV.mk 0 T.1).num := ⟨_, rfl⟩
          have hNR : RdV.num ⟨0, T.1⟩ = N := hN.symm
          obtain ⟨S, hS⟩ : ∃ S, S = N.2.str 65536 := ⟨_, rfl⟩
          have HStr := Lib.hid (fun (g : Nat) (y : World) (hy : RdAt y g N.2) => show Calls Tryz.prog 65 #[.pointer (some ⟨g, 0, none⟩), .int .i64 65536] y _ from rstr2_any N.2 65536 g (by decide) y hy)
          have HEnd := Lib.hid (fun (g : Nat) (y : World) (hy : RdAt y g S.2) => end_any S.2 g y hy)
          rw [hNR] at HNum
          rw [← hS] at HStr
          rw [show rdB T.1 = S.2.end_ by rw [hS, hN]; rfl, ← hN, ← hS] at hlk
          have HTL := Lib.hid hTl
          clear hof hN hNR hS hTl
          by_cases h4 : S.2.end_.e ≠ 0
          · rw [if_pos (.inl h4)] at hlk
            have HL := Lib.hid hlk
            have hz4 : ((S.2.end_.e : Int) != 0) = true := by rw [bne_iff_ne]; omega
            clear hlk h4
            go_enter Tryz.func36, Tryz.ntmps36
            go_upto_region 1 with fail
            change Code.wp _ _ _ _ (w.alloc (.cells [Value.string nm, .string x, .int .i64 (f.sy : Int)].toArray 35))
            generalize w.alloc (.cells [Value.string nm, .string x, .int .i64 (f.sy : Int)].toArray 35) = w1 at *
            go_upto_region 4 with ((with_reducible refine (HT.out _).mono ?_); rintro e w2 ⟨rfl, hb2⟩; have HB2 := Lib.hid hb2; have k1 := (World.cell?_of_block (hb2.block w.heap.size (cell_lt k1))).trans k1; have k2 := (World.cell?_of_block (hb2.block w.heap.size (cell_lt k2))).trans k2; clear hb2)
            go_wp2_with (first
              | ((with_reducible refine (Hof.out _).mono ?_); rintro e w3 ⟨rfl, hw3⟩
                 have hr3 : RdAt w3 w2.heap.size ⟨0, T.1⟩ := ⟨by rw [hw3]; exact heap_alloc_new _ _, HTL.out⟩
                 have hb3 : Below w2.heap.size w2 w3 := by rw [hw3]; exact (Below.refl _ _).alloc (Nat.le_refl _) _
                 have hge : w.heap.size ≤ w2.heap.size := (HB.out.trans (HB2.out.mono HB.out.size)).size
                 have HW2 := Lib.hid (And.intro (hb3.mono HB2.out.size) (And.intro hr3 hge))
                 clear hr3 hb3 hge hw3
                 generalize w2.heap.size = g2 at *)
              | ((with_reducible refine (HNum.out _ _ HW2.out.2.1).mono ?_); rintro e w4 ⟨rfl, h4⟩; have HW3 := Lib.hid (And.intro trivial h4); clear h4)
              | ((with_reducible refine (HStr.out _ _ HW3.out.2.1).mono ?_); rintro e w5 ⟨rfl, h5⟩; have HW4 := Lib.hid (And.intro trivial h5); clear h5)
              | ((with_reducible refine (HEnd.out _ _ HW4.out.2.1).mono ?_); rintro e w6 ⟨rfl, h6⟩; have HW5 := Lib.hid (And.intro trivial h6); clear h6))
            go_ret2
            rw [HL.out]
            exact ⟨rfl, (HW5.out.2.2.below (HW4.out.2.2.below (HW3.out.2.2.below (HB.out.trans ((HB2.out.trans HW2.out.1).mono HB.out.size)) HW2.out.2.2) HW2.out.2.2) HW2.out.2.2)⟩
          · have hz4 : ((S.2.end_.e : Int) != 0) = false := by rw [bne_eq_false_iff_eq]; omega
            by_cases h5 : N.1 ≠ n
            · rw [if_pos (.inr h5)] at hlk
              have HL := Lib.hid hlk
              have hz5 : ((N.1 : Int) != (n : Int)) = true := by rw [bne_iff_ne]; omega
              clear hlk h4 h5
              go_enter Tryz.func36, Tryz.ntmps36
              go_upto_region 1 with fail
              change Code.wp _ _ _ _ (w.alloc (.cells [Value.string nm, .string x, .int .i64 (f.sy : Int)].toArray 35))
              generalize w.alloc (.cells [Value.string nm, .string x, .int .i64 (f.sy : Int)].toArray 35) = w1 at *
              go_upto_region 4 with ((with_reducible refine (HT.out _).mono ?_); rintro e w2 ⟨rfl, hb2⟩; have HB2 := Lib.hid hb2; have k1 := (World.cell?_of_block (hb2.block w.heap.size (cell_lt k1))).trans k1; have k2 := (World.cell?_of_block (hb2.block w.heap.size (cell_lt k2))).trans k2; clear hb2)
              go_wp2_with (first
                | ((with_reducible refine (Hof.out _).mono ?_); rintro e w3 ⟨rfl, hw3⟩
                   have hr3 : RdAt w3 w2.heap.size ⟨0, T.1⟩ := ⟨by rw [hw3]; exact heap_alloc_new _ _, HTL.out⟩
                   have hb3 : Below w2.heap.size w2 w3 := by rw [hw3]; exact (Below.refl _ _).alloc (Nat.le_refl _) _
                   have hge : w.heap.size ≤ w2.heap.size := (HB.out.trans (HB2.out.mono HB.out.size)).size
                   have HW2 := Lib.hid (And.intro (hb3.mono HB2.out.size) (And.intro hr3 hge))
                   clear hr3 hb3 hge hw3
                   generalize w2.heap.size = g2 at *)
                | ((with_reducible refine (HNum.out _ _ HW2.out.2.1).mono ?_); rintro e w4 ⟨rfl, h4⟩; have HW3 := Lib.hid (And.intro trivial h4); clear h4)
                | ((with_reducible refine (HStr.out _ _ HW3.out.2.1).mono ?_); rintro e w5 ⟨rfl, h5⟩; have HW4 := Lib.hid (And.intro trivial h5); clear h5)
                | ((with_reducible refine (HEnd.out _ _ HW4.out.2.1).mono ?_); rintro e w6 ⟨rfl, h6⟩; have HW5 := Lib.hid (And.intro trivial h6); clear h6))
              go_ret2
              rw [HL.out]
              exact ⟨rfl, (HW5.out.2.2.below (HW4.out.2.2.below (HW3.out.2.2.below (HB.out.trans ((HB2.out.trans HW2.out.1).mono HB.out.size)) HW2.out.2.2) HW2.out.2.2) HW2.out.2.2)⟩
            · rw [if_neg (fun h => h.elim h4 h5)] at hlk
              have HL := Lib.hid hlk
              have hz5 : ((N.1 : Int) != (n : Int)) = false := by rw [bne_eq_false_iff_eq]; omega
              clear hlk h4 h5
              go_enter Tryz.func36, Tryz.ntmps36
              go_upto_region 1 with fail
              change Code.wp _ _ _ _ (w.alloc (.cells [Value.string nm, .string x, .int .i64 (f.sy : Int)].toArray 35))
              generalize w.alloc (.cells [Value.string nm, .string x, .int .i64 (f.sy : Int)].toArray 35) = w1 at *
              go_upto_region 4 with ((with_reducible refine (HT.out _).mono ?_); rintro e w2 ⟨rfl, hb2⟩; have HB2 := Lib.hid hb2; have k1 := (World.cell?_of_block (hb2.block w.heap.size (cell_lt k1))).trans k1; have k2 := (World.cell?_of_block (hb2.block w.heap.size (cell_lt k2))).trans k2; clear hb2)
              go_wp2_with (first
                | ((with_reducible refine (Hof.out _).mono ?_); rintro e w3 ⟨rfl, hw3⟩
                   have hr3 : RdAt w3 w2.heap.size ⟨0, T.1⟩ := ⟨by rw [hw3]; exact heap_alloc_new _ _, HTL.out⟩
                   have hb3 : Below w2.heap.size w2 w3 := by rw [hw3]; exact (Below.refl _ _).alloc (Nat.le_refl _) _
                   have hge : w.heap.size ≤ w2.heap.size := (HB.out.trans (HB2.out.mono HB.out.size)).size
                   have HW2 := Lib.hid (And.intro (hb3.mono HB2.out.size) (And.intro hr3 hge))
                   clear hr3 hb3 hge hw3
                   generalize w2.heap.size = g2 at *)
                | ((with_reducible refine (HNum.out _ _ HW2.out.2.1).mono ?_); rintro e w4 ⟨rfl, h4⟩; have HW3 := Lib.hid (And.intro trivial h4); clear h4)
                | ((with_reducible refine (HStr.out _ _ HW3.out.2.1).mono ?_); rintro e w5 ⟨rfl, h5⟩; have HW4 := Lib.hid (And.intro trivial h5); clear h5)
                | ((with_reducible refine (HEnd.out _ _ HW4.out.2.1).mono ?_); rintro e w6 ⟨rfl, h6⟩; have HW5 := Lib.hid (And.intro trivial h6); clear h6))
              go_ret2
              rw [HL.out]
              exact ⟨rfl, (HW5.out.2.2.below (HW4.out.2.2.below (HW3.out.2.2.below (HB.out.trans ((HB2.out.trans HW2.out.1).mono HB.out.size)) HW2.out.2.2) HW2.out.2.2) HW2.out.2.2)⟩
end Go.Proofs.YtogfladmgbldcaaGreatDoor
namespace Go.Proofs.YtogfladmgbldcaaGreatDoor
open Go.RowKit Go.Shelf
attribute [local go_sem] Oper.semAt_some
def encB (x : Nat × FilV) : Array Value := #[.int .u64 (x.1 : Int), .agg (filE x.2).toArray]
def baseF (f : FilV) : Option (Nat × FilV) := (slotD f.nm).map (fun n => (n, f))
/-- The base files, by their slots. -/
def baseL (fs : List FilV) : List (Nat × FilV) := fs.filterMap baseF
theorem baseL_snoc (l : List FilV) (f : FilV) : baseL (l ++ [f]) = baseL l ++ (baseF f).toList := by
  unfold baseL
  rw [List.filterMap_append]
  cases h : baseF f <;> simp [h]
theorem baseL_pre {a b : List FilV} (h : a <+: b) : baseL a <+: baseL b := by
  obtain ⟨c, rfl⟩ := h
  unfold baseL
  rw [List.filterMap_append]
  exact List.prefix_append _ _
set_option maxRecDepth 100000 in
theorem bfiles_any (p : Nat) (w : World) :
    Calls Tryz.prog 35 #[.pointer (some ⟨p, 0, none⟩)] w fun e w' => e = .returned (.func (.func 60) #[] #[.pointer (some ⟨w.heap.size, 0, none⟩)]) ∧ w'.heap[w.heap.size]? = some (.cells #[.pointer (some ⟨p, 0, none⟩)] 32 (0, 0)) ∧ Below w.heap.size w w' := by
  go_enter Tryz.func35, Tryz.ntmps35
  go_wp2
  go_ret
  exact ⟨rfl, heap_alloc_new _ _, (Below.refl _ w).alloc (Nat.le_refl _) _⟩
/-- A row of files, as an iterator reads it. -/
theorem files_row {w : World} {base N : Nat} {v : Value} {l : List FilV} (hN : l.length = N) (h : w.ownsRow base 35 3 v N (flat filE l)) : ∃ A c, v = .slice A N c ∧ ∃ Y : Nat → Prop, (∀ r, Y r → base ≤ r ∧ r < w.heap.size) ∧
    ∀ i f, l[i]? = some f → ∃ g, A = some ⟨g, 0, none⟩ ∧ ∀ y, KeptZ Y w y → y.cell? ⟨g, i * 3, none⟩ = some (.string ⟨f.nm.toArray⟩) ∧ y.cell? ⟨g, i * 3 + 1, none⟩ = some (.string ⟨f.by_.toArray⟩) ∧ y.cell? ⟨g, i * 3 + 2, none⟩ = some (.int .i64 (f.sy : Int)) := by
  rcases h.2 with ⟨rfl, h0⟩ | ⟨g, cap, cur, rfl, hb, hg, hc1, _, hcs, ht⟩
  · have hl : l = [] := List.length_eq_zero_iff.1 (by omega)
    subst hl
    exact ⟨none, 0, by rw [h0], fun _ => False, fun _ h => h.elim, fun i x hx => by simp at hx⟩
  · refine ⟨_, _, rfl, fun r => r = g, fun r hr => by subst hr; exact ⟨hb, (Array.getElem?_eq_some_iff.1 hg).1⟩, fun i f hf => ⟨g, rfl, fun y hy => ?_⟩⟩
    have hi : i < l.length := (List.getElem?_eq_some_iff.1 hf).1
    have one : ∀ r u, (filE f)[r]? = some u → r < 3 → y.cell? ⟨g, i * 3 + r, none⟩ = some u := fun r u hu hr => by
      have e1 : (cur.toList.take (N * 3))[i * 3 + r]? = some u := by
        rw [ht]
        exact flat_at filE_len l i r f u hf hu
      rw [List.getElem?_take, if_pos (by omega)] at e1
      unfold World.cell?
      rw [hy g _ rfl hg]
      show cur[i * 3 + r]? = _
      rw [← Array.getElem?_toList]
      exact e1
    exact ⟨one 0 _ rfl (by decide), one 1 _ rfl (by decide), one 2 _ rfl (by decide)⟩
set_option maxRecDepth 100000 in
set_option maxHeartbeats 4000000 in
theorem bfiles_stops (m g0 p b n : Nat) (C : Bs → Nat) (L : List Nat) (D : DskV) (hlen : D.fs.length ≤ 1000000) (hnl : ∀ f ∈ D.fs, f.nm.length ≤ maxLen) (w : World) (h : DskAt w p b n C L D) (hbx : w.heap[g0]? = some (.cells #[.pointer (some ⟨p, 0, none⟩)] 32 (0, 0))) :
    SeqY Fence.wide m Tryz.prog 60 #[.pointer (some ⟨g0, 0, none⟩)] encB (fun ys => ys = baseL D.fs) (fun pre => pre <+: baseL D.fs) PV w := by
  intro l J Jx W hW hJ hJx hRd hY h0
  have hd := h.below hW
  have cbx : W.cell? ⟨g0, 0, none⟩ = some (.pointer (some ⟨p, 0, none⟩)) := cell_of_row _ _ _ _ _ _ ((hW.block g0 (Array.getElem?_eq_some_iff.1 hbx).1).trans hbx)
  have HF := Lib.hid (callsIn_wide.1 (files_in p b n C L D hlen W hd))
  have HA := Lib.hid (And.intro hJ (And.intro hJx (And.intro hRd (And.intro hY h0))))
  have HS := Lib.hid (And.intro hlen hnl)
  clear h hbx hJ hJx hRd hY h0 hlen hd hW hnl
  refine callsIn_of_wp Tryz.func60 rfl trivial ?_ rfl
  simp only [Tryz.ntmps60, List.size_toArray, List.length_cons, List.length_nil, Nat.reduceAdd, Nat.reduceSub, Array.replicate_succ, Array.replicate_zero, List.push_toArray, List.append_toArray, List.nil_append, List.cons_append]
  gi_wp2_with (first
    | (refine ⟨trivial, (fun h => (by cases h)), ?_⟩; (with_reducible refine (callsIn_wide.2 HF.out).mono ?_); rintro e w1 ⟨v, rfl, k1, k2⟩
       obtain ⟨A, c, rfl, Y, hY1, hY2⟩ := files_row rfl k1
       have HR := Lib.hid (And.intro hY1 (And.intro hY2 k2)); clear k1 k2 hY1 hY2; dsimp only)
    | gi_in)
  have HY := Lib.hid (show NewY Y W from fun r hr => (HR.out.1 r hr).1)
  have HYl := Lib.hid (show ∀ r, Y r → r < w1.heap.size from fun r hr => (HR.out.1 r hr).2)
  have hbW := HR.out.2.2
  have HJ1 := Lib.hid (show J Y [] w1 from HA.out.1 Y HY.out [] W w1 none (HA.out.2.2.2.2 Y HY.out) ⟨hbW.os, hbW.tape, hbW.output, hbW.size, fun q hq _ => hbW.block q hq⟩ (fun r e => by cases e))
  obtain ⟨N, hN⟩ : ∃ N, N = D.fs.length := ⟨_, rfl⟩
  rw [← hN]
  have HN := Lib.hid hN
  have hN6 : N ≤ 1000000 := by rw [hN]; exact HS.out.1
  clear hbW hN
  gi_loopw [10] (fun s10 wr => ∃ i : Nat, s10 = .int .i64 (i : Int) ∧ i ≤ N ∧ J Y (baseL (D.fs.take i)) wr ∧ KeptZ Y w1 wr) (fun s10 _ => N - (intOf s10).toNat)
  case atStart => exact ⟨0, rfl, Nat.zero_le _, HJ1.out, KeptZ.refl _ _⟩
  case round =>
    obtain ⟨i, rfl, hi, hj, hk⟩ := hrel
    have hpv := HA.out.2.2.1 Y _ _ hj
    by_cases hiN : i < N
    · have hiI : (i : Int) < (N : Int) := by omega
      have hif : i < D.fs.length := by rw [← HN.out]; exact hiN
      obtain ⟨f, hf⟩ : ∃ f, f = D.fs[i] := ⟨_, rfl⟩
      have hfm : f ∈ D.fs := by rw [hf]; exact List.getElem_mem hif
      obtain ⟨gk, rfl, hck⟩ := HR.out.2.1 i f (by rw [List.getElem?_eq_getElem hif, hf])
      obtain ⟨q0, q1, q2⟩ := hck wr hk
      have htake : D.fs.take (i + 1) = D.fs.take i ++ [f] := by rw [List.take_add_one, List.getElem?_eq_getElem hif, hf]; rfl
      have hsz : (⟨f.nm.toArray⟩ : ByteArray).size ≤ maxLen := by simpa [ByteArray.size] using HS.out.2 f hfm
      have HSO := Lib.hid (fun (y : World) (hy : Below wr.heap.size wr y) => show Calls Tryz.prog 61 #[.string ⟨f.nm.toArray⟩] y (fun e w' => e = .returned (.tuple #[.int .u64 (((slotD f.nm).getD 0 : Nat) : Int), .bool (slotD f.nm).isSome]) ∧ Below y.heap.size y w') from slotOf_any ⟨f.nm.toArray⟩ hsz y (hpv.below hy))
      have HK := Lib.hid (And.intro hk hj)
      have HT := Lib.hid (And.intro htake hfm)
      have hw1 : wrap64 ((i : Int) + 1) = ((i + 1 : Nat) : Int) := by unfold wrap64; omega
      clear hk hj hpv hck hf hif hfm htake hsz
      have HB0 := Lib.hid (fun (o : Obj) => (Below.refl wr.heap.size wr).alloc (Nat.le_refl _) o)
      cases hsl : slotD f.nm with
      | none =>
        rw [hsl] at HSO
        have HBF := Lib.hid (show baseL (D.fs.take (i + 1)) = baseL (D.fs.take i) from by rw [HT.out.1, baseL_snoc]; unfold baseF; rw [hsl]; simp)
        clear hsl
        gi_wp2_with (first
        | (refine ⟨trivial, (fun h => (by cases h)), ?_⟩; (with_reducible refine (callsIn_wide.2 (HSO.out _ (HB0.out _))).mono ?_); rintro e w3 ⟨rfl, hb3⟩
           have hb4 := (HB0.out (.cells (filE f).toArray 35)).trans (hb3.mono (by simp))
           have hr3 : w3.heap[wr.heap.size]? = some (.cells (filE f).toArray 35 (0, 0)) := (hb3.block wr.heap.size (by simp)).trans (heap_alloc_new wr _)
           have d0 : w3.cell? ⟨wr.heap.size, 0, none⟩ = some (.string ⟨f.nm.toArray⟩) := cell_of_row _ _ 0 _ _ _ hr3
           have d1 : w3.cell? ⟨wr.heap.size, 1, none⟩ = some (.string ⟨f.by_.toArray⟩) := cell_of_row _ _ 1 _ _ _ hr3
           have d2 : w3.cell? ⟨wr.heap.size, 2, none⟩ = some (.int .i64 (f.sy : Int)) := cell_of_row _ _ 2 _ _ _ hr3
           have hj3 : J Y (baseL (D.fs.take i)) w3 := HA.out.1 Y HY.out _ wr w3 none HK.out.2 ⟨hb4.os, hb4.tape, hb4.output, hb4.size, fun q hq _ => hb4.block q hq⟩ (fun r e => by cases e)
           have hk3 : KeptZ Y w1 w3 := HK.out.1.trans (fun r o hr ho => (hb4.block r (Array.getElem?_eq_some_iff.1 ho).1).trans ho)
           have H3 := Lib.hid (And.intro hj3 hk3)
           clear hb3 hb4 hr3 hj3 hk3
           dsimp only)
        | gi_in)
        refine ⟨fun _ h => (by cases h), ?_⟩
        gi_wp2
        exact ⟨⟨i + 1, by rw [Int.natCast_add]; rfl, by omega, by rw [HBF.out]; exact H3.out.1, H3.out.2⟩, by simp only [intOf]; omega⟩
      | some sn =>
        rw [hsl] at HSO
        have HBF := Lib.hid (show baseL (D.fs.take (i + 1)) = baseL (D.fs.take i) ++ [(sn, f)] from by rw [HT.out.1, baseL_snoc]; unfold baseF; rw [hsl]; rfl)
        have HYF := Lib.hid (fun (y : World) (hj : J Y (baseL (D.fs.take i)) y) (hk : KeptZ Y w1 y) => HA.out.2.2.2.1 Y (baseL (D.fs.take i)) (sn, f) y HY.out hj (fun r hr => hk.lt hr (HYl.out r hr)) (by rw [← HBF.out]; exact baseL_pre (List.take_prefix _ _)))
        clear hsl
        gi_wp2_with (first
        | (refine ⟨trivial, (fun h => (by cases h)), ?_⟩; (with_reducible refine (callsIn_wide.2 (HSO.out _ (HB0.out _))).mono ?_); rintro e w3 ⟨rfl, hb3⟩
           have hb4 := (HB0.out (.cells (filE f).toArray 35)).trans (hb3.mono (by simp))
           have hr3 : w3.heap[wr.heap.size]? = some (.cells (filE f).toArray 35 (0, 0)) := (hb3.block wr.heap.size (by simp)).trans (heap_alloc_new wr _)
           have d0 : w3.cell? ⟨wr.heap.size, 0, none⟩ = some (.string ⟨f.nm.toArray⟩) := cell_of_row _ _ 0 _ _ _ hr3
           have d1 : w3.cell? ⟨wr.heap.size, 1, none⟩ = some (.string ⟨f.by_.toArray⟩) := cell_of_row _ _ 1 _ _ _ hr3
           have d2 : w3.cell? ⟨wr.heap.size, 2, none⟩ = some (.int .i64 (f.sy : Int)) := cell_of_row _ _ 2 _ _ _ hr3
           have hj3 : J Y (baseL (D.fs.take i)) w3 := HA.out.1 Y HY.out _ wr w3 none HK.out.2 ⟨hb4.os, hb4.tape, hb4.output, hb4.size, fun q hq _ => hb4.block q hq⟩ (fun r e => by cases e)
           have hk3 : KeptZ Y w1 w3 := HK.out.1.trans (fun r o hr ho => (hb4.block r (Array.getElem?_eq_some_iff.1 ho).1).trans ho)
           have H3 := Lib.hid (And.intro hj3 hk3)
           clear hb3 hb4 hr3 hj3 hk3
           obtain ⟨fn, tmps, assign, body, hy, hR⟩ := HYF.out w3 H3.out.1 H3.out.2
           have HRn := Lib.hid hR
           clear hR
           rw [show encB (sn, f) = #[.int .u64 (sn : Int), .agg #[.string ⟨f.nm.toArray⟩, .string ⟨f.by_.toArray⟩, .int .i64 (f.sy : Int)]] from rfl] at hy
           dsimp only)
        | gi_in)
        refine ⟨fun h => (by cases h), HRn.out.mono ?_⟩
        rintro e W3 (⟨rfl, hJ3, hk4⟩ | ⟨rfl, hJ3, _⟩)
        · have H5 := Lib.hid (And.intro hJ3 (H3.out.2.trans hk4))
          clear hJ3 hk4
          dsimp only
          gi_wp2
          exact ⟨⟨i + 1, by rw [Int.natCast_add]; rfl, by omega, by rw [HBF.out]; exact H5.out.1, H5.out.2⟩, by simp only [intOf]; omega⟩
        · have H5 := Lib.hid hJ3
          clear hJ3
          dsimp only
          gi_wp2
          refine bodyPost_ret (results_none rfl _ _ _) rfl ?_
          exact ⟨⟨_, rfl⟩, Y, HY.out, .inr ⟨_, by rw [← HBF.out]; exact baseL_pre (List.take_prefix _ _), H5.out⟩⟩
    · have hiI : ¬ (i : Int) < (N : Int) := by omega
      have hie : i = N := by omega
      have hjN : J Y (baseL D.fs) wr := by rw [hie, HN.out, List.take_length] at hj; exact hj
      have H3 := Lib.hid hjN
      clear hj hpv hk hjN hie
      gi_wp2
      go_end0
      exact ⟨⟨_, rfl⟩, Y, HY.out, .inl H3.out⟩
end Go.Proofs.YtogfladmgbldcaaGreatDoor
namespace Go.Proofs.YtogfladmgbldcaaGreatDoor
abbrev BsF := List (Nat × FilV)
def lkN (x : Nat × FilV) : Nat := (lookD x.1 x.2).1
theorem lk_cases (n : Nat) (f : FilV) : ((lookD n f).1 = 0 ∧ (lookD n f).2 = []) ∨ (lookD n f).1 = 1 ∨ ((lookD n f).1 = 2 ∧ (lookD n f).2 = []) := by
  unfold lookD
  split
  · exact .inl ⟨rfl, rfl⟩
  · split
    · exact .inr (.inr ⟨rfl, rfl⟩)
    · split
      · exact .inr (.inr ⟨rfl, rfl⟩)
      · exact .inr (.inl rfl)
def youngN (B : BsF) : List Bs := (B.filter (fun x => decide (lkN x = 0))).map (fun x => x.2.nm)
def goodN (B : BsF) : List Bs := (B.filter (fun x => decide (lkN x = 1))).map (fun x => x.2.nm)
/-- The slot and the text of the last good base. -/
def lastG (B : BsF) : Nat × Bs := B.foldl (fun a x => if lkN x = 1 then (x.1, (lookD x.1 x.2).2) else a) (0, [])
def spoilt (B : BsF) : Prop := ∃ x ∈ B, lkN x = 2
def rmN (B : BsF) : List Bs := youngN B ++ (goodN B).dropLast
def rems (D : DskV) (l : List Bs) : DskV := l.foldl (fun D nm => (remD D nm).1) D
theorem lastG_snoc (B : BsF) (x : Nat × FilV) : lastG (B ++ [x]) = if lkN x = 1 then (x.1, (lookD x.1 x.2).2) else lastG B := by
  unfold lastG
  rw [List.foldl_append]
  rfl
theorem youngN_snoc (B : BsF) (x : Nat × FilV) : youngN (B ++ [x]) = if lkN x = 0 then youngN B ++ [x.2.nm] else youngN B := by
  unfold youngN
  rw [List.filter_append]
  by_cases h : lkN x = 0 <;> simp [h]
theorem goodN_snoc (B : BsF) (x : Nat × FilV) : goodN (B ++ [x]) = if lkN x = 1 then goodN B ++ [x.2.nm] else goodN B := by
  unfold goodN
  rw [List.filter_append]
  by_cases h : lkN x = 1 <;> simp [h]
theorem youngN_len (B : BsF) : (youngN B).length ≤ B.length := by unfold youngN; rw [List.length_map]; exact List.length_filter_le _ _
theorem goodN_len (B : BsF) : (goodN B).length ≤ B.length := by unfold goodN; rw [List.length_map]; exact List.length_filter_le _ _
theorem base_mem {fs : List FilV} {x : Nat × FilV} (h : x ∈ baseL fs) : x.2 ∈ fs ∧ slotD x.2.nm = some x.1 := by
  obtain ⟨f, hf, he⟩ := List.mem_filterMap.1 h
  unfold baseF at he
  cases hs : slotD f.nm with
  | none => rw [hs] at he; cases he
  | some n => rw [hs] at he; cases he; exact ⟨hf, hs⟩
theorem base_rise {fs : List FilV} (h : Rise fs) : (baseL fs).Pairwise (fun x y => x.2.nm < y.2.nm) := by
  unfold baseL
  refine List.Pairwise.filterMap baseF ?_ h
  intro a b hab x hx y hy
  unfold baseF at hx hy
  cases ha : slotD a.nm with
  | none => rw [ha] at hx; cases hx
  | some n =>
    cases hb : slotD b.nm with
    | none => rw [hb] at hy; cases hy
    | some m =>
      rw [ha] at hx
      rw [hb] at hy
      cases hx
      cases hy
      exact hab
theorem base_uniq : ∀ {B : BsF}, B.Pairwise (fun x y => x.2.nm < y.2.nm) → ∀ {x y : Nat × FilV}, x ∈ B → y ∈ B → x.2.nm = y.2.nm → x = y
  | z :: r, h, x, y, hx, hy, e => by
    obtain ⟨h1, h2⟩ := List.pairwise_cons.1 h
    rcases List.mem_cons.1 hx with rfl | hx2 <;> rcases List.mem_cons.1 hy with rfl | hy2
    · rfl
    · have := h1 y hy2
      rw [e] at this
      exact (List.lt_irrefl _ this).elim
    · have := h1 x hx2
      rw [← e] at this
      exact (List.lt_irrefl _ this).elim
    · exact base_uniq h2 hx2 hy2 e
theorem nms_nodup {B : BsF} (h : B.Pairwise (fun x y => x.2.nm < y.2.nm)) : (youngN B).Nodup ∧ (goodN B).Nodup ∧ ∀ a ∈ youngN B, a ∉ goodN B := by
  have ne : ∀ {x y : Nat × FilV}, x ∈ B → y ∈ B → x.2.nm = y.2.nm → x = y := fun hx hy e => base_uniq h hx hy e
  have nd : ∀ q : Nat × FilV → Bool, ((B.filter q).map (fun x => x.2.nm)).Nodup := fun q => by
    refine List.pairwise_map.2 ((h.filter q).imp (fun {a b} (hab : a.2.nm < b.2.nm) (e : a.2.nm = b.2.nm) => by rw [e] at hab; exact List.lt_irrefl _ hab))
  refine ⟨nd _, nd _, fun a ha hb => ?_⟩
  obtain ⟨x, hx, rfl⟩ := List.mem_map.1 ha
  obtain ⟨y, hy, e⟩ := List.mem_map.1 hb
  obtain ⟨x1, x2⟩ := List.mem_filter.1 hx
  obtain ⟨y1, y2⟩ := List.mem_filter.1 hy
  have := ne y1 x1 e
  subst this
  simp only [decide_eq_true_eq] at x2 y2
  omega
theorem rmN_nodup {B : BsF} (h : B.Pairwise (fun x y => x.2.nm < y.2.nm)) : (rmN B).Nodup := by
  obtain ⟨h1, h2, h3⟩ := nms_nodup h
  unfold rmN
  exact List.nodup_append.2 ⟨h1, h2.sublist (List.dropLast_sublist _), fun a ha b hb e => h3 a ha (e ▸ List.dropLast_subset _ hb)⟩
theorem rmN_mem {fs : List FilV} {nm : Bs} (h : nm ∈ rmN (baseL fs)) : ∃ f ∈ fs, f.nm = nm := by
  unfold rmN at h
  have key : ∀ q : Nat × FilV → Bool, nm ∈ ((baseL fs).filter q).map (fun x => x.2.nm) → ∃ f ∈ fs, f.nm = nm := fun q hq => by
    obtain ⟨x, hx, rfl⟩ := List.mem_map.1 hq
    exact ⟨x.2, (base_mem (List.mem_filter.1 hx).1).1, rfl⟩
  rcases List.mem_append.1 h with h | h
  · exact key _ h
  · exact key _ (List.dropLast_subset _ h)
theorem rems_cons (D : DskV) (nm : Bs) (l : List Bs) : rems D (nm :: l) = rems (remD D nm).1 l := rfl
theorem rems_snoc (D : DskV) (l : List Bs) (nm : Bs) : rems D (l ++ [nm]) = (remD (rems D l) nm).1 := by unfold rems; rw [List.foldl_append]; rfl
theorem rem_one {D : DskV} {nm : Bs} {f : FilV} (hd : D.dead = false) (hf : findF nm D.fs = some f) : remD D nm = ({ D with fs := delF nm D.fs, room := D.room + f.by_.length }, 0) := by
  unfold remD
  rw [with_some hd hf]
theorem rems_spec (l : List Bs) : ∀ (D : DskV), D.dead = false → l.Nodup → (∀ nm ∈ l, ∃ f ∈ D.fs, f.nm = nm) →
    (rems D l).dead = false ∧ (rems D l).fuse = D.fuse ∧ (rems D l).fs = D.fs.filter (fun f => decide (f.nm ∉ l)) := by
  induction l with
  | nil =>
    intro D hd _ _
    refine ⟨hd, rfl, ?_⟩
    show D.fs = _
    rw [List.filter_eq_self.2]
    simp
  | cons nm l ih =>
    intro D hd hn hm
    obtain ⟨hn1, hn2⟩ := List.nodup_cons.1 hn
    obtain ⟨f, hf, rfl⟩ := hm nm (List.mem_cons_self ..)
    have hs : (findF f.nm D.fs).isSome = true := find_some.2 (List.mem_map.2 ⟨f, hf, rfl⟩)
    obtain ⟨g, hg⟩ := Option.isSome_iff_exists.1 hs
    rw [rems_cons, rem_one hd hg]
    obtain ⟨i1, i2, i3⟩ := ih { D with fs := delF f.nm D.fs, room := D.room + g.by_.length } hd hn2 (fun q hq => by
      obtain ⟨x, hx, rfl⟩ := hm q (List.mem_cons_of_mem _ hq)
      exact ⟨x, List.mem_filter.2 ⟨hx, by simpa using fun e => hn1 (by rw [← e]; exact hq)⟩, rfl⟩)
    refine ⟨i1, i2, ?_⟩
    rw [i3]
    show (delF f.nm D.fs).filter _ = _
    unfold delF
    rw [List.filter_filter]
    congr 1
    funext x
    simp [Bool.and_comm]
theorem rems_find {D : DskV} {l : List Bs} {nm : Bs} {k : Nat} (hd : D.dead = false) (hn : l.Nodup) (hm : ∀ nm ∈ l, ∃ f ∈ D.fs, f.nm = nm) (hk : k < l.length) (hnm : nm = l[k]) : ∃ f, findF nm (rems D (l.take k)).fs = some f ∧ (rems D (l.take k)).dead = false := by
  obtain ⟨h1, _, h3⟩ := rems_spec (l.take k) D hd (hn.sublist (List.take_sublist _ _)) (fun q hq => hm q (List.take_subset _ _ hq))
  obtain ⟨f, hf, hfn⟩ := hm nm (by rw [hnm]; exact List.getElem_mem hk)
  have hnot : nm ∉ l.take k := by
    have h2 : l = l.take k ++ l.drop k := (List.take_append_drop k l).symm
    rw [h2] at hn
    intro hq
    exact (List.nodup_append.1 hn).2.2 nm hq nm (by rw [hnm, List.drop_eq_getElem_cons hk]; exact List.mem_cons_self ..) rfl
  have hs : (findF nm (rems D (l.take k)).fs).isSome = true := find_some.2 (by
    rw [h3]
    exact List.mem_map.2 ⟨f, List.mem_filter.2 ⟨hf, by simpa [hfn] using hnot⟩, hfn⟩)
  obtain ⟨g, hg⟩ := Option.isSome_iff_exists.1 hs
  exact ⟨g, hg, h1⟩
end Go.Proofs.YtogfladmgbldcaaGreatDoor
