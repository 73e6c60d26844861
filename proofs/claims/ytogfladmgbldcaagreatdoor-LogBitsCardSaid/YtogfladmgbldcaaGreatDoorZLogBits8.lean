/- Disk: Turn. Condition: as each theorem says. -/
import Derived.Test.YtogfladmgbldcaaGreatDoorZLogBits7
import Derived.IntWalk
import Derived.Lib.Walk
import Derived.BigGuard
import Derived.Test.YtogfladmgbldcaaGreatDoorZLogBits3
import Derived.Test.YtogfladmgbldcaaGreatDoorZLogBits1
import Derived.Test.YtogfladmgbldcaaGreatDoorZLogBits4
import Derived.OwnWalkIn
import Derived.Laws.OwnMore
import Derived.Test.YtogfladmgbldcaaGreatDoorZLogBits6
import Derived.Lib.ParseIntBCases
namespace Go.Proofs.YtogfladmgbldcaaGreatDoor
open Go.RowKit Go.Shelf
attribute [local go_sem] Oper.semAt_some
/-- Turn, between its rounds. -/
structure TuI (p b n : Nat) (C : Bs → Nat) (L : List Nat) (D : DskV) (kb : Nat) (w : World) (pre : List FilV) (y : World) : Prop where
  dsk : DskAt y p b n C L D
  bit : y.heap[w.heap.size]? = some (.cells #[.int .i64 (kb : Int)] 3 (0, 0))
  res : y.heap[w.heap.size + 1]? = some (.cells #[.int .i64 0] 24 (0, 0))
  at_ : y.heap[w.heap.size + 1 + 1]? = some (.cells #[.int .i64 ((kb / 8 - totF pre : Nat) : Int)] 3 (0, 0))
  srt : y.heap[w.heap.size + 1 + 1 + 1]? = some (.cells #[.pointer (some ⟨p, 0, none⟩)] 32 (0, 0))
  tur : Turns L w y
  tot : totF pre ≤ kb / 8
  pr : pre <+: D.fs
/-- Turn, where the byte was found. -/
structure TuX (p b n : Nat) (C : Bs → Nat) (L : List Nat) (D : DskV) (kb : Nat) (w : World) (y : World) : Prop where
  dsk : DskAt y p b n C L { D with fs := turnL kb D.fs }
  res : y.heap[w.heap.size + 1]? = some (.cells #[.int .i64 0] 24 (0, 0))
  tur : Turns L w y
theorem TuI.turn {p b n : Nat} {C : Bs → Nat} {L : List Nat} {D : DskV} {kb : Nat} {w w2 : World} {pre : List FilV} {y : World} (h : TuI p b n C L D kb w pre y) (hL : ∀ g ∈ L, g < w.heap.size) (hw : w.heap.size + 4 ≤ w2.heap.size) {Y : Nat → Prop} (hY : NewY Y w2) {y' : World} {row : Option Nat} (hg : y.grownBy y' row) (hr : ∀ r, row = some r → Y r) : TuI p b n C L D kb w pre y' := by
  have hz : ∀ r, row = some r → w.heap.size + 4 ≤ r := fun r e => Nat.le_trans hw (hY r (hr r e))
  have up : ∀ {q : Nat} {o : Obj}, q < w.heap.size + 4 → y.heap[q]? = some o → y'.heap[q]? = some o := fun {q o} hq h => (hg.block _ (Array.getElem?_eq_some_iff.1 h).1 (fun e => by have := hz _ e.symm; omega)).trans h
  have hs := h.tur.size
  exact ⟨h.dsk.keep (fun g hgL => hg.block g (by have := hL g hgL; omega) (fun e => by have := hz _ e.symm; have := hL g hgL; omega)), up (by omega) h.bit, up (by omega) h.res, up (by omega) h.at_, up (by omega) h.srt, h.tur.grown hg (fun r e => by have := hz r e; omega), h.tot, h.pr⟩
theorem TuX.turn {p b n : Nat} {C : Bs → Nat} {L : List Nat} {D : DskV} {kb : Nat} {w w2 : World} {y : World} (h : TuX p b n C L D kb w y) (hL : ∀ g ∈ L, g < w.heap.size) (hw : w.heap.size + 4 ≤ w2.heap.size) {Y : Nat → Prop} (hY : NewY Y w2) {y' : World} {row : Option Nat} (hg : y.grownBy y' row) (hr : ∀ r, row = some r → Y r) : TuX p b n C L D kb w y' := by
  have hz : ∀ r, row = some r → w.heap.size + 4 ≤ r := fun r e => Nat.le_trans hw (hY r (hr r e))
  have hs := h.tur.size
  exact ⟨h.dsk.keep (fun g hgL => hg.block g (by have := hL g hgL; omega) (fun e => by have := hz _ e.symm; have := hL g hgL; omega)), (hg.block _ (Array.getElem?_eq_some_iff.1 h.res).1 (fun e => by have := hz _ e.symm; omega)).trans h.res, h.tur.grown hg (fun r e => by have := hz r e; omega)⟩
theorem TuI.next {p b n : Nat} {C : Bs → Nat} {L : List Nat} {D : DskV} {kb : Nat} {w w2 : World} {Y : Nat → Prop} {pre z : List FilV} {f : FilV} {W v2 : World} {q : Nat} {u : Int} (h : TuI p b n C L D kb w pre W) (hz : pre ++ [f] ++ z = D.fs) (hw : w.heap.size + 4 ≤ w2.heap.size) (hL : ∀ g ∈ L, g < w.heap.size) (hY : NewY Y w2)
    (hq : q = kb / 8 - totF pre) (hle : f.by_.length ≤ q) (hb : Below W.heap.size W v2) (hu : u = ((q - f.by_.length : Nat) : Int)) :
    KeptZ Y W (v2.setCell ⟨w.heap.size + 1 + 1, 0, none⟩ (.int .i64 u)) ∧ TuI p b n C L D kb w (pre ++ [f]) (v2.setCell ⟨w.heap.size + 1 + 1, 0, none⟩ (.int .i64 u)) := by
  have ll : ∀ {q : Nat} {o : Obj}, W.heap[q]? = some o → q < W.heap.size := fun h => (Array.getElem?_eq_some_iff.1 h).1
  have kp : ∀ {g : Nat}, g < W.heap.size → g ≠ w.heap.size + 1 + 1 → (v2.setCell ⟨w.heap.size + 1 + 1, 0, none⟩ (.int .i64 u)).heap[g]? = W.heap[g]? := fun {g} hl hn => (setC_other hn).trans (hb.block g hl)
  have ht : totF (pre ++ [f]) = totF pre + f.by_.length := by simp [totF]
  have htt := h.tot
  have hs := h.tur.size
  refine ⟨fun r o hr ho => (kp (ll ho) (by have := hY r hr; omega)).trans ho, ⟨h.dsk.keep (fun g hg => kp (by have := hL g hg; omega) (by have := hL g hg; omega)), (kp (ll h.bit) (by omega)).trans h.bit, (kp (ll h.res) (by omega)).trans h.res, ?_, (kp (ll h.srt) (by omega)).trans h.srt, ?_, by omega, ⟨z, hz⟩⟩⟩
  · rw [heap_setCell_same v2 (w.heap.size + 1 + 1) 0 #[.int .i64 ((kb / 8 - totF pre : Nat) : Int)] _ _ ((hb.block _ (ll h.at_)).trans h.at_), hu, show kb / 8 - totF (pre ++ [f]) = q - f.by_.length by omega]
    rfl
  · exact ⟨hb.os.trans h.tur.os, hb.tape.trans h.tur.tape, hb.output.trans h.tur.out, by have := hb.size; simp; omega, fun g hg hn => (kp (by omega) (by omega)).trans (h.tur.block g hg hn)⟩
theorem TuI.found {p b n : Nat} {C : Bs → Nat} {L : List Nat} {D : DskV} {kb : Nat} {w w2 : World} {Y : Nat → Prop} {pre z : List FilV} {f : FilV} {W v2 : World} {q c : Nat} {l2 : Bs} (h : TuI p b n C L D kb w pre W) (hz : pre ++ [f] ++ z = D.fs) (hw : w.heap.size + 4 ≤ w2.heap.size) (hL : ∀ g ∈ L, g < w.heap.size) (hY : NewY Y w2)
    (hq : q = kb / 8 - totF pre) (hle : q < f.by_.length) (hl2 : l2 = f.by_.set q (f.by_.getD q 0 ^^^ UInt8.ofNat (2 ^ (kb % 8)))) (hb : Below W.heap.size W v2) (hc : c = C f.nm) :
    KeptZ Y W ((v2.setCell ⟨c, 0, none⟩ (.string ⟨l2.toArray⟩)).setCell ⟨w.heap.size + 1, 0, none⟩ (.int .i64 0)) ∧ Code.ret = Code.ret ∧ TuX p b n C L D kb w ((v2.setCell ⟨c, 0, none⟩ (.string ⟨l2.toArray⟩)).setCell ⟨w.heap.size + 1, 0, none⟩ (.int .i64 0)) := by
  have hfm : f ∈ D.fs := by rw [← hz]; simp
  have hff := find_of h.dsk.ris hfm
  have hcl := h.dsk.cl f hfm
  have hcL : c ∈ L := by rw [hc]; exact hcl.1
  have hcs := hL c hcL
  have ll : ∀ {q : Nat} {o : Obj}, W.heap[q]? = some o → q < W.heap.size := fun h => (Array.getElem?_eq_some_iff.1 h).1
  have kp : ∀ {g : Nat}, g < W.heap.size → g ≠ w.heap.size + 1 → g ≠ c → ((v2.setCell ⟨c, 0, none⟩ (.string ⟨l2.toArray⟩)).setCell ⟨w.heap.size + 1, 0, none⟩ (.int .i64 0)).heap[g]? = W.heap[g]? := fun {g} hl hn hn2 => (setC_other hn).trans ((setC_other hn2).trans (hb.block g hl))
  have hs := h.tur.size
  have htt := h.tot
  have hfl : Crc.flip f.by_ (kb - 8 * totF pre) = l2 := by rw [flip_mod _ _ _ (by omega), hl2, hq]
  have hll : l2.length = f.by_.length := by rw [hl2, List.length_set]
  have htl : turnL kb D.fs = putF { f with by_ := l2 } D.fs := by
    have hr := h.dsk.ris
    rw [← hz, List.append_assoc] at hr ⊢
    rw [List.singleton_append] at hr ⊢
    rw [turn_app htt, put_mid (f := f) (g := { f with by_ := l2 }) rfl hr, turnL, if_pos (by omega), hfl]
  have hl3 := h.dsk.syn f hfm
  refine ⟨fun r o hr ho => (kp (ll ho) (by have := hY r hr; omega) (by have := hY r hr; omega)).trans ho, rfl, ⟨?_, ?_, ?_⟩⟩
  · refine h.dsk.upd (f := f) (f' := { f with by_ := l2 }) hff rfl htl ((kp (ll h.dsk.d) (by have := hL p h.dsk.pb.1; omega) (by rw [hc]; exact hcl.2.1.symm)).trans h.dsk.d) ?_ (fun g hg h1 h2 => kp (by have := hL g hg; omega) (by have := hL g hg; omega) (by rw [hc]; exact h2)) ?_ ?_ h.dsk.fz
    · rw [← hc, setC_other (by omega)]
      rw [heap_setCell_same v2 c 0 (filC f) _ _ ((hb.block c (by omega)).trans (by rw [hc]; exact h.dsk.c f hfm))]
      rfl
    · show f.sy ≤ l2.length
      omega
    · have h1 := (put_old (f := { f with by_ := l2 }) (g := f) h.dsk.ris hff).1
      have h2 := h.dsk.sum
      show D.room + totF (turnL kb D.fs) ≤ _
      rw [htl]
      simp only [hll] at h1
      omega
  · exact heap_setCell_same _ _ 0 #[.int .i64 0] _ _ ((setC_other (by omega)).trans ((hb.block _ (ll h.res)).trans h.res))
  · exact ⟨hb.os.trans h.tur.os, hb.tape.trans h.tur.tape, hb.output.trans h.tur.out, by have := hb.size; simp; omega, fun g hg hn => (kp (by omega) (by omega) (fun e => hn (by rw [e]; exact hcL))).trans (h.tur.block g hg hn)⟩
set_option maxRecDepth 100000 in
set_option maxHeartbeats 4000000 in
theorem turn_in {p b n : Nat} {C : Bs → Nat} {L : List Nat} {D : DskV} (kb : Nat) (hkb : kb < 8 * totF D.fs) (hlen : D.fs.length ≤ 1000000) (w : World) (h : DskAt w p b n C L D) (hL : ∀ g ∈ L, g < w.heap.size) (hdd : D.dead = true) :
    CallsIn Fence.wide 9 Tryz.prog 25 #[.pointer (some ⟨p, 0, none⟩), .int .i64 (kb : Int)] w fun e w' => e = .returned (.int .i64 0) ∧ DskAt w' p b n C L { D with fs := turnL kb D.fs } ∧ Turns L w w' := by
  have hk9 : kb < 33554432 := by have := h.sum; omega
  obtain ⟨q0, q1, q2, q3⟩ := h.cells
  rw [hdd] at q3
  have hpl := h.lt
  have hb2 := ((Below.refl _ w).alloc (Nat.le_refl _) (.cells #[.int .i64 (kb : Int)] 3)).alloc (by simp) (.cells #[.int .i64 0] 24)
  have q3' := (World.cell?_of_block (hb2.block p hpl)).trans q3
  have H := Lib.hid h
  have HL := Lib.hid hL
  have HB2 := Lib.hid hb2
  have hkn : decide ((kb : Int) < 0) = false := decide_eq_false (by omega)
  clear h hL q0 q1 q2 hpl hb2
  refine callsIn_of_wp_marks Tryz.func25 rfl trivial ?_ rfl
  simp only [Tryz.ntmps25, List.size_toArray, List.length_cons, List.length_nil, Nat.reduceAdd, Nat.reduceSub, Array.replicate_succ, Array.replicate_zero, List.push_toArray, List.append_toArray, List.nil_append, List.cons_append]
  gi_wp2_with (first
    | (refine ⟨trivial, ?_⟩; refine (callsIn_wide.2 (sorted_any p _)).mono ?_; rintro e w2 ⟨rfl, hbx, hb2⟩; dsimp only)
    | gi_in)
  have r3 := (HB2.out.block w.heap.size)
  obtain ⟨E3, hE3⟩ : ∃ E3, E3 = (((w.alloc (.cells #[.int .i64 (kb : Int)] 3)).alloc (.cells #[.int .i64 0] 24)).alloc (.cells #[.int .i64 ((kb : Int) / 8)] 3)) := ⟨_, rfl⟩
  have e3 : E3.heap.size = w.heap.size + 1 + 1 + 1 := by rw [hE3]; simp
  have b3 : Below w.heap.size w E3 := by rw [hE3]; exact HB2.out.alloc (by simp; omega) _
  have x3 : E3.heap[w.heap.size]? = some (.cells #[.int .i64 (kb : Int)] 3 (0, 0)) := by
    rw [hE3, heap_alloc_old _ _ (by simp; omega), heap_alloc_old _ _ (by simp)]
    exact heap_alloc_new _ _
  have x4 : E3.heap[w.heap.size + 1]? = some (.cells #[.int .i64 0] 24 (0, 0)) := by
    rw [hE3, heap_alloc_old _ _ (by simp)]
    have h := heap_alloc_new (w.alloc (.cells #[.int .i64 (kb : Int)] 3)) (.cells #[.int .i64 0] 24)
    rwa [World.size_alloc] at h
  have x5 : E3.heap[w.heap.size + 1 + 1]? = some (.cells #[.int .i64 ((kb / 8 - totF [] : Nat) : Int)] 3 (0, 0)) := by
    have h := heap_alloc_new ((w.alloc (.cells #[.int .i64 (kb : Int)] 3)).alloc (.cells #[.int .i64 0] 24)) (.cells #[.int .i64 ((kb : Int) / 8)] 3)
    rw [World.size_alloc, World.size_alloc] at h
    rw [hE3, h, show ((kb / 8 - totF [] : Nat) : Int) = (kb : Int) / 8 by simp [totF]]
  rw [← hE3] at hbx hb2 ⊢
  rw [e3] at hbx hb2 ⊢
  have bA := b3.trans (hb2.mono (by omega))
  have hz2 : w.heap.size + 4 ≤ w2.heap.size := (Array.getElem?_eq_some_iff.1 hbx).1
  have hD2 := H.out.below bA
  have HI0 := Lib.hid (show TuI p b n C L D kb w [] w2 from ⟨hD2, (hb2.block _ (by omega)).trans x3, (hb2.block _ (by omega)).trans x4, (hb2.block _ (by omega)).trans x5, hbx, Turns.of bA, Nat.zero_le _, List.nil_prefix⟩)
  have HZ := Lib.hid hz2
  clear r3 x3 x4 x5 hb2 b3 e3 bA hE3 q3 q3'
  clear E3
  refine wpIn_rangeY rfl (by decide) (gf := 72) (lb := #[.pointer (some ⟨w.heap.size + 1 + 1 + 1, 0, none⟩)]) rfl trivial (enters_of Tryz.func72 (by kernel_rfl) rfl)
    (sorted_stops _ (w.heap.size + 1 + 1 + 1) p b n C L D hlen w2 hD2 hbx) (Below.refl _ _) (fun _ => rfl)
    (fun Y pre W' => TuI p b n C L D kb w pre W') (fun Y c pre W' => c = .ret ∧ TuX p b n C L D kb w W')
    (fun Y hY s A B row hs hg hr => hs.turn HL.out HZ.out hY hg hr) (fun Y hY c s A B row hs hg hr => ⟨hs.1, hs.2.turn HL.out HZ.out hY hg hr⟩) (fun Y pre W' hI => ?hRd) (fun Y _ => HI0.out)
    (fun f => { tmps := List.toArray (.pointer (some ⟨p, 0, none⟩) :: .int .i64 (kb : Int) :: undef :: .pointer (some ⟨w.heap.size, 0, none⟩) :: .pointer (some ⟨w.heap.size + 1, 0, none⟩) :: .pointer (some ⟨w.heap.size + 1 + 1, 0, none⟩) :: undef :: .pointer (some ⟨C f.nm, 0, none⟩) :: undef :: .pointer (some ⟨p, 0, none⟩) :: .bool false :: .pointer (some ⟨p, 0, none⟩) :: .pointer (some ⟨p, 0, none⟩) :: .pointer (some ⟨p, 3, none⟩) :: .bool true :: .bool false :: .bool false :: .int .i64 (kb : Int) :: .bool false :: .bool false :: .int .i64 (kb : Int) :: .int .i64 ((kb : Int) / 8) :: .pointer (some ⟨p, 0, none⟩) :: .func (.func 72) #[] #[.pointer (some ⟨w.heap.size + 1 + 1 + 1, 0, none⟩)] :: .string ⟨f.nm.toArray⟩ :: .pointer (some ⟨C f.nm, 0, none⟩) :: undef :: undef :: undef :: undef :: undef :: undef :: undef :: undef :: undef :: undef :: undef :: undef :: undef :: undef :: undef :: undef :: undef :: undef :: undef :: undef :: undef :: undef :: undef :: undef :: undef :: undef :: undef :: undef :: undef :: undef :: undef :: undef :: undef :: []), defers := [] }) ?assign ?body ?done ?stop
  case hRd =>
    exact ⟨hI.srt, hI.dsk.cells.1, hI.dsk.m⟩
  case assign =>
    intro l' f W' K hK
    simp only [encF]
    gi_wp2
    exact hK
  case done =>
    rintro Y ys W hY hYw rfl hI hK
    have := hI.tot
    omega
  case stop =>
    rintro Y c pre W hY hYw hSp ⟨rfl, hX⟩ hK
    have HX0 := Lib.hid hX
    have c4 : W.cell? ⟨w.heap.size + 1, 0, none⟩ = some (.int .i64 0) := cell_of_row _ _ _ _ _ _ hX.res
    have hIT := HX0.out.turn HL.out HZ.out hY (grownBy_putObj' W w2.heap.size (.deferred none)) (fun r e => by cases e; exact hYw)
    have hfin : (W.putObj w2.heap.size (.deferred none)).cell? ⟨w.heap.size + 1, 0, none⟩ = some (.int .i64 0) := cell_of_row _ _ _ _ _ _ hIT.res
    have HT := Lib.hid hIT
    clear hIT hX
    gi_wp2
    refine ⟨by simp, .inl ⟨_, _, rfl, run_takeDeferred hK, ?_⟩⟩
    refine ⟨.int .i64 0, ?_, rfl, HT.out.dsk, HT.out.tur⟩
    simp [results, Tryz.results25, go_sem, hfin] <;> rfl
  case body =>
    rintro l' Y pre f W hY hYl hI hSp
    obtain ⟨z, hzz⟩ := hSp
    have hfm : f ∈ D.fs := by rw [← hzz]; simp
    have hfc := hI.dsk.c f hfm
    have hcl := hI.dsk.cl f hfm
    have hz : (⟨f.by_.toArray⟩ : ByteArray).size = f.by_.length := by simp [ByteArray.size]
    have hlt : f.by_.length ≤ 4194304 := by
      have h1 := put_old (f := { f with by_ := [] }) (g := f) hI.dsk.ris (find_of hI.dsk.ris hfm)
      have h2 := h1.1
      have h3 := hI.dsk.sum
      simp at h2
      omega
    obtain ⟨q, hq⟩ : ∃ q, q = kb / 8 - totF pre := ⟨_, rfl⟩
    have hat := hI.at_
    rw [← hq] at hat
    have HC := Lib.hid (fun (y : World) (hy : Below W.heap.size W y) => (show y.cell? ⟨w.heap.size, 0, none⟩ = some (.int .i64 (kb : Int)) ∧ y.cell? ⟨w.heap.size + 1 + 1, 0, none⟩ = some (.int .i64 (q : Int)) ∧ y.cell? ⟨C f.nm, 0, none⟩ = some (.string ⟨f.by_.toArray⟩) ∧ y.cell? ⟨w.heap.size + 1, 0, none⟩ = some (.int .i64 0) from
      ⟨cell_of_row _ _ _ _ _ _ ((hy.block _ (Array.getElem?_eq_some_iff.1 hI.bit).1).trans hI.bit), cell_of_row _ _ _ _ _ _ ((hy.block _ (Array.getElem?_eq_some_iff.1 hat).1).trans hat), cell_of_row _ _ _ _ _ _ ((hy.block _ (Array.getElem?_eq_some_iff.1 hfc).1).trans hfc), cell_of_row _ _ _ _ _ _ ((hy.block _ (Array.getElem?_eq_some_iff.1 hI.res).1).trans hI.res)⟩))
    have hxl : (⟨f.by_.toArray⟩ : ByteArray).data.toList = f.by_ := rfl
    obtain ⟨x, hx⟩ : ∃ x : ByteArray, x = ⟨f.by_.toArray⟩ := ⟨_, rfl⟩
    rw [← hx] at hz HC hxl
    obtain ⟨c, hc⟩ : ∃ c, c = C f.nm := ⟨_, rfl⟩
    rw [← hc] at HC hfc hcl ⊢
    have HI := Lib.hid (And.intro hI (And.intro hfc (And.intro hcl (And.intro hzz (And.intro hat hfm)))))
    have HS := Lib.hid (And.intro hq (And.intro hz (And.intro hlt (And.intro hxl (And.intro hx hc)))))
    have HY := Lib.hid (And.intro hY hYl)
    clear hI hzz hfm hfc hcl hz hlt hat hx hxl hc hq hY hYl
    refine wpIn_block ?_
    refine wpIn_seq_k ?_
    intro QQ hQQ
    refine wpIn_seq_k ?_
    intro Q3 hQ3
    refine RegK.wpIn_region_can (F := (Fence.wide.inRound l')) (KeptW W) [(0, 0), (1, 0), (2, 0), (3, 0), (4, 0), (5, 0), (6, 0)] (by kernel_rfl) (by kernel_rfl) (by kernel_rfl) (fun _ _ d _ _ h => by cases d <;> exact h) ⟨rfl, rfl, rfl, Nat.le_refl _, fun _ _ => rfl⟩ ?_
    dsimp only [RegK.pick, List.getElem?_cons_zero, List.getElem?_cons_succ]
    change RegK.Can _ _ _ _ _ _ _ _ W.drew
    have hkd : KeptW W W.drew := ⟨rfl, rfl, rfl, Nat.le_refl _, fun _ _ => rfl⟩
    generalize W.drew = v1 at *
    refine RegK.can_reads ?_
    intro K hK
    go_simp
    refine ⟨.int .i64 (q : Int), fun y hy => ?_, hK _ ?_⟩
    · obtain ⟨c1, c2, c3, c4⟩ := HC.out y (KeptW.bel hy)
      go_simp
    clear hK K
    iterate 3 (refine RegK.can_reads ?_; intro K hK; go_simp; (first | refine ⟨_, fun _ _ => rfl, hK _ ?_⟩ | refine hK _ ?_); clear hK K)
    refine RegK.can_reads ?_
    intro K hK
    go_simp
    refine ⟨.string x, fun y hy => ?_, hK _ ?_⟩
    · obtain ⟨c1, c2, c3, c4⟩ := HC.out y (KeptW.bel hy)
      go_simp
    clear hK K
    iterate 2 (refine RegK.can_reads ?_; intro K hK; go_simp; (first | refine ⟨_, fun _ _ => rfl, hK _ ?_⟩ | refine hK _ ?_); clear hK K)
    refine RegK.can_nil ?_
    refine hQ3 _ _ ?_
    clear hQ3 Q3
    obtain ⟨c1, c2, c3, c4⟩ := HC.out v1 (KeptW.bel hkd)
    have HK1 := Lib.hid (KeptW.bel hkd)
    have hconv := fun (w : World) => run_bytes_of_string (P := Tryz.prog) w 9 42 5 x Tryz.underlying9 Tryz.underlying42 Tryz.underlying5
    clear hkd
    by_cases hqx : q < x.size
    · have hqd : decide ((q : Int) < (x.size : Int)) = true := decide_eq_true (by omega)
      gi_wp2
      generalize grownCap v1 x.size 0 5 = cap
      obtain ⟨W1, hW1⟩ : ∃ W1, W1 = (v1.alloc (Obj.cells (bytesRow x cap) 5 ((bytesRow x cap).size, (bytesRow x cap).size + 1))).drew := ⟨_, rfl⟩
      have hrow : ByteRow W1 v1.heap.size x.data.toList := by rw [hW1]; exact (ByteRow.of_string v1 x cap _).drew
      have hbel : Below v1.heap.size v1 W1 := by rw [hW1]; exact ((Below.refl _ _).alloc (Nat.le_refl _) _).drew
      have hsz : v1.heap.size < W1.heap.size := by rw [hW1]; simp
      rw [← hW1]
      clear hW1 c1 c2 c3 c4 hconv
      have HB := Lib.hid (And.intro (HK1.out.trans (hbel.mono HK1.out.size)) (And.intro hsz HK1.out.size))
      clear hbel hsz
      generalize v1.heap.size = g at *
      have HROW := Lib.hid hrow
      obtain ⟨r, hr⟩ : ∃ r, kb % 8 = r := ⟨_, rfl⟩
      have hr' : r < 8 := by omega
      have e3 : (kb : Int).tmod 8 = (r : Int) := by rw [Int.tmod_eq_emod_of_nonneg (by omega)]; omega
      have hql : q < x.data.toList.length := by rw [Array.length_toList]; exact hqx
      obtain ⟨v, hv⟩ : ∃ v, v = x.data.toList.getD q 0 := ⟨_, rfl⟩
      have HVE := Lib.hid (show ∀ h : q < x.data.toList.length, x.data.toList[q]'h = v from fun h => by rw [hv, List.getD_eq_getElem?_getD, List.getElem?_eq_getElem h]; rfl)
      have HV := Lib.hid (And.intro hr hv)
      have HC1 := Lib.hid (fun (y : World) (hy : Below W1.heap.size W1 y) => (show y.cell? ⟨w.heap.size, 0, none⟩ = some (.int .i64 (kb : Int)) ∧ y.cell? ⟨w.heap.size + 1 + 1, 0, none⟩ = some (.int .i64 (q : Int)) ∧ y.cell? ⟨g, q, none⟩ = some (.int .u8 (v.toNat : Int)) from by
        obtain ⟨c1, c2, c3, c4⟩ := HC.out y (HB.out.1.trans (hy.mono HB.out.1.size))
        refine ⟨c1, c2, ?_⟩
        rw [← HVE.out hql]
        exact (World.cell?_of_block (hy.block g HB.out.2.1)).trans (HROW.out q hql).1))
      clear hrow hr hv hql
      refine RegK.wpIn_region_can (F := (Fence.wide.inRound l')) (KeptW W1) [(0, 0), (1, 0), (2, 0), (3, 0), (4, 0), (5, 0), (6, 0), (7, 0), (8, 0), (9, 3)] (by kernel_rfl) (by kernel_rfl) (by kernel_rfl) (fun _ _ d _ _ h => by cases d <;> exact h) ⟨rfl, rfl, rfl, Nat.le_refl _, fun _ _ => rfl⟩ ?_
      dsimp only [RegK.pick, List.getElem?_cons_zero, List.getElem?_cons_succ]
      change RegK.Can _ _ _ _ _ _ _ _ W1.drew
      have hkd : KeptW W1 W1.drew := ⟨rfl, rfl, rfl, Nat.le_refl _, fun _ _ => rfl⟩
      generalize W1.drew = v2 at *
      refine RegK.can_reads ?_; intro K hK; go_simp; (first | refine ⟨_, fun _ _ => rfl, hK _ ?_⟩ | refine hK _ ?_); clear hK K
      refine RegK.can_reads ?_
      intro K hK
      go_simp
      refine ⟨.int .i64 (q : Int), fun y hy => ?_, hK _ ?_⟩
      · obtain ⟨c1, c2, c3⟩ := HC1.out y (KeptW.bel hy)
        go_simp
      clear hK K
      refine RegK.can_reads ?_; intro K hK; go_simp; (first | refine ⟨_, fun _ _ => rfl, hK _ ?_⟩ | refine hK _ ?_); clear hK K
      refine RegK.can_reads ?_
      intro K hK
      go_simp
      refine ⟨.int .u8 (v.toNat : Int), fun y hy => ?_, hK _ ?_⟩
      · obtain ⟨c1, c2, c3⟩ := HC1.out y (KeptW.bel hy)
        go_simp
      clear hK K
      refine RegK.can_reads ?_
      intro K hK
      go_simp
      refine ⟨.int .i64 (kb : Int), fun y hy => ?_, hK _ ?_⟩
      · obtain ⟨c1, c2, c3⟩ := HC1.out y (KeptW.bel hy)
        go_simp
      clear hK K
      iterate 4 (refine RegK.can_reads ?_; intro K hK; go_simp; (first | refine ⟨_, fun _ _ => rfl, hK _ ?_⟩ | refine hK _ ?_); clear hK K)
      have HKD := Lib.hid (KeptW.bel hkd)
      have HR2 := Lib.hid (show ByteRow v2 g x.data.toList from fun j hj => by
        have h1 := HROW.out j hj
        have h2 := HKD.out.block g HB.out.2.1
        refine ⟨(World.cell?_of_block h2).trans h1.1, ?_⟩
        have h3 := h1.2
        unfold World.frozen? at h3 ⊢
        rw [h2]
        exact h3)
      have hb9 := HR2.out q (by rw [Array.length_toList]; exact hqx)
      rw [HVE.out] at hb9
      obtain ⟨hbc, hbf⟩ := hb9
      clear hkd
      refine RegK.can_frees (fun _ => trivial) ?_
      intro K K0 hK hK0
      go_simp
      refine hK (fun _ => True) _ _ trivial ?_
      clear hK K hK0 K0 hbc hbf
      refine RegK.can_nil ?_
      rw [show IntKind.u8.wrap ((2 : Int) ^ r) = 2 ^ r % 256 from IntKind.wrap_u8' _, Crc.xor_u8 v r hr']
      have hnr : ByteRow (v2.setCell ⟨g, q, none⟩ (.int .u8 ((v ^^^ UInt8.ofNat (2 ^ r)).toNat : Int))) g (x.data.toList.set q (v ^^^ UInt8.ofNat (2 ^ r))) := ByteRow.set HR2.out _ rfl
      have hbk : ∀ k, k < W.heap.size → (v2.setCell ⟨g, q, none⟩ (.int .u8 ((v ^^^ UInt8.ofNat (2 ^ r)).toNat : Int))).heap[k]? = W.heap[k]? := fun k hk => (setC_other (by have := HB.out.2.2; omega)).trans ((HKD.out.block k (Nat.lt_of_lt_of_le hk HB.out.1.size)).trans (HB.out.1.block k hk))
      have hbw : Below W.heap.size W (v2.setCell ⟨g, q, none⟩ (.int .u8 ((v ^^^ UInt8.ofNat (2 ^ r)).toNat : Int))) := (HB.out.1.trans (HKD.out.mono HB.out.1.size)).setCell (p := ⟨g, q, none⟩) HB.out.2.2 _
      generalize v2.setCell ⟨g, q, none⟩ (.int .u8 ((v ^^^ UInt8.ofNat (2 ^ r)).toNat : Int)) = W2 at *
      obtain ⟨l2, hl2⟩ : ∃ l2, l2 = x.data.toList.set q (v ^^^ UInt8.ofNat (2 ^ r)) := ⟨_, rfl⟩
      rw [← hl2] at hnr
      have hbs := hnr.string (P := Tryz.prog) 42 9 5 (n := x.size) (cap := cap) (by rw [hl2, List.length_set, Array.length_toList]; rfl) Tryz.underlying42 Tryz.underlying5 Tryz.underlying9
      have f0 := (hbk c (Array.getElem?_eq_some_iff.1 HI.out.2.1).1).trans HI.out.2.1
      have f1 := cell_of_row _ _ 0 _ _ _ f0
      rw [show (filC f)[0]? = some (.string (⟨f.by_.toArray⟩ : ByteArray)) from rfl] at f1
      have f2 := thaw0 0 f0
      have p0 := (hbk _ (Array.getElem?_eq_some_iff.1 HI.out.1.res).1).trans HI.out.1.res
      have hne : w.heap.size + 1 ≠ c := fun e => by have := HL.out c HI.out.2.2.1.1; omega
      have p1 : (W2.setCell ⟨c, 0, none⟩ (.string ⟨l2.toArray⟩)).heap[w.heap.size + 1]? = _ := (setC_other hne).trans p0
      have p2 := cell_of_row _ _ 0 _ _ _ p1
      rw [show (#[Value.int .i64 0] : Array Value)[0]? = some (.int .i64 0) from rfl] at p2
      have p3 := thaw0 0 p1
      have HF := Lib.hid (And.intro hbw (And.intro hl2 (And.intro f0 p1)))
      clear hbw hl2 f0 p0 p1 hnr hbk hne
      gi_wp2
      have hl3 := HF.out.2.1
      have hS := HS.out
      exact HI.out.1.found HI.out.2.2.2.1 HZ.out HL.out HY.out.1 hS.1 (by rw [hS.2.1] at hqx; exact hqx) (by rw [hl3, (HV.out).1, (HV.out).2, hS.2.2.2.1]) HF.out.1 hS.2.2.2.2.2
    · have hqd : decide ((q : Int) < (x.size : Int)) = false := decide_eq_false (by omega)
      gi_wp2
      have HC1 := Lib.hid (fun (y : World) (hy : Below v1.heap.size v1 y) => HC.out y (HK1.out.trans (hy.mono HK1.out.size)))
      have xw1 : IntKind.i64.wrap ((q : Int) - (x.size : Int)) = ((q - x.size : Nat) : Int) := by
        have := HS.out.1
        rw [IntWalk.i64_in _ (by omega)]
        omega
      clear c1 c2 c3 c4 hconv
      refine RegK.wpIn_region_can (F := (Fence.wide.inRound l')) (KeptW v1) [(0, 0), (1, 0), (2, 0), (3, 0), (4, 0), (5, 0), (6, 0), (7, 3)] (by kernel_rfl) (by kernel_rfl) (by kernel_rfl) (fun _ _ d _ _ h => by cases d <;> exact h) ⟨rfl, rfl, rfl, Nat.le_refl _, fun _ _ => rfl⟩ ?_
      dsimp only [RegK.pick, List.getElem?_cons_zero, List.getElem?_cons_succ]
      change RegK.Can _ _ _ _ _ _ _ _ v1.drew
      have hkd : KeptW v1 v1.drew := ⟨rfl, rfl, rfl, Nat.le_refl _, fun _ _ => rfl⟩
      generalize v1.drew = v2 at *
      refine RegK.can_reads ?_
      intro K hK
      go_simp
      refine ⟨.int .i64 (q : Int), fun y hy => ?_, hK _ ?_⟩
      · obtain ⟨c1, c2, c3, c4⟩ := HC1.out y (KeptW.bel hy)
        go_simp
      clear hK K
      iterate 3 (refine RegK.can_reads ?_; intro K hK; go_simp; (first | refine ⟨_, fun _ _ => rfl, hK _ ?_⟩ | refine hK _ ?_); clear hK K)
      refine RegK.can_reads ?_
      intro K hK
      go_simp
      refine ⟨.string x, fun y hy => ?_, hK _ ?_⟩
      · obtain ⟨c1, c2, c3, c4⟩ := HC1.out y (KeptW.bel hy)
        go_simp
      clear hK K
      iterate 2 (refine RegK.can_reads ?_; intro K hK; go_simp; (first | refine ⟨_, fun _ _ => rfl, hK _ ?_⟩ | refine hK _ ?_); clear hK K)
      obtain ⟨c1, c2, c3, c4⟩ := HC1.out v2 (KeptW.bel hkd)
      have tf := thaw0 0 (((HK1.out.trans ((KeptW.bel hkd).mono HK1.out.size)).block _ (Array.getElem?_eq_some_iff.1 HI.out.2.2.2.2.1).1).trans HI.out.2.2.2.2.1)
      refine RegK.can_frees (fun _ => trivial) ?_
      intro K K0 hK hK0
      go_simp
      refine hK (fun _ => True) _ _ trivial ?_
      clear hK K hK0 K0 c1 c2 c3 c4 tf
      refine RegK.can_nil ?_
      have hS := HS.out
      exact HI.out.1.next HI.out.2.2.2.1 HZ.out HL.out HY.out.1 hS.1 (by rw [← hS.2.1]; omega) (HK1.out.trans ((KeptW.bel hkd).mono HK1.out.size)) (by rw [hS.2.1])
end Go.Proofs.YtogfladmgbldcaaGreatDoor
namespace Go.Proofs.YtogfladmgbldcaaGreatDoor
open Go.RowKit Go.Shelf
attribute [local go_sem] Oper.semAt_some
/-- A row of files, as an iterator reads it. -/
theorem files_row {w : World} {base N : Nat} {v : Value} {l : List FilV} (hN : l.length = N) (h : w.ownsRow base 35 3 v N (flat filE l)) : ∃ A c, v = .slice A N c ∧ ∃ Y : Nat → Prop, (∀ r, Y r → base ≤ r ∧ r < w.heap.size) ∧
    ∀ i f, l[i]? = some f → ∃ g, A = some ⟨g, 0, none⟩ ∧ ∀ y, KeptZ Y w y → y.cell? ⟨g, i * 3, none⟩ = some (.string ⟨f.nm.toArray⟩) ∧ y.cell? ⟨g, i * 3 + 1, none⟩ = some (.string ⟨f.by_.toArray⟩) ∧ y.cell? ⟨g, i * 3 + 2, none⟩ = some (.int .i64 (f.sy : Int)) := by
  rcases h.2 with ⟨rfl, h0⟩ | ⟨g, cap, cur, rfl, hb, hg, hc1, _, hcs, ht⟩
  · have hl : l = [] := List.length_eq_zero_iff.1 (by omega)
    subst hl
    exact ⟨none, 0, by rw [h0], fun _ => False, fun _ h => h.elim, fun i x hx => by simp at hx⟩
  · refine ⟨_, _, rfl, fun r => r = g, fun r hr => by subst hr; exact ⟨hb, (Array.getElem?_eq_some_iff.1 hg).1⟩, fun i f hf => ⟨g, rfl, fun y hy => ?_⟩⟩
    have hi : i < l.length := (List.getElem?_eq_some_iff.1 hf).1
    have one : ∀ r u, (filE f)[r]? = some u → r < 3 → y.cell? ⟨g, i * 3 + r, none⟩ = some u := fun r u hu hr => by
      have e1 : (cur.toList.take (N * 3))[i * 3 + r]? = some u := by
        rw [ht]
        exact flat_at filE_len l i r f u hf hu
      rw [List.getElem?_take, if_pos (by omega)] at e1
      unfold World.cell?
      rw [hy g _ rfl hg]
      show cur[i * 3 + r]? = _
      rw [← Array.getElem?_toList]
      exact e1
    exact ⟨one 0 _ rfl (by decide), one 1 _ rfl (by decide), one 2 _ rfl (by decide)⟩
end Go.Proofs.YtogfladmgbldcaaGreatDoor
namespace Go.Proofs.YtogfladmgbldcaaGreatDoor
def rems (D : DskV) (l : List Bs) : DskV := l.foldl (fun D nm => (remD D nm).1) D
theorem rems_cons (D : DskV) (nm : Bs) (l : List Bs) : rems D (nm :: l) = rems (remD D nm).1 l := rfl
theorem rems_snoc (D : DskV) (l : List Bs) (nm : Bs) : rems D (l ++ [nm]) = (remD (rems D l) nm).1 := by unfold rems; rw [List.foldl_append]; rfl
theorem rem_one {D : DskV} {nm : Bs} {f : FilV} (hd : D.dead = false) (hf : findF nm D.fs = some f) : remD D nm = ({ D with fs := delF nm D.fs, room := D.room + f.by_.length }, 0) := by
  unfold remD
  rw [with_some hd hf]
theorem rems_spec (l : List Bs) : ∀ (D : DskV), D.dead = false → l.Nodup → (∀ nm ∈ l, ∃ f ∈ D.fs, f.nm = nm) →
    (rems D l).dead = false ∧ (rems D l).fuse = D.fuse ∧ (rems D l).fs = D.fs.filter (fun f => decide (f.nm ∉ l)) := by
  induction l with
  | nil =>
    intro D hd _ _
    refine ⟨hd, rfl, ?_⟩
    show D.fs = _
    rw [List.filter_eq_self.2]
    simp
  | cons nm l ih =>
    intro D hd hn hm
    obtain ⟨hn1, hn2⟩ := List.nodup_cons.1 hn
    obtain ⟨f, hf, rfl⟩ := hm nm (List.mem_cons_self ..)
    have hs : (findF f.nm D.fs).isSome = true := find_some.2 (List.mem_map.2 ⟨f, hf, rfl⟩)
    obtain ⟨g, hg⟩ := Option.isSome_iff_exists.1 hs
    rw [rems_cons, rem_one hd hg]
    obtain ⟨i1, i2, i3⟩ := ih { D with fs := delF f.nm D.fs, room := D.room + g.by_.length } hd hn2 (fun q hq => by
      obtain ⟨x, hx, rfl⟩ := hm q (List.mem_cons_of_mem _ hq)
      exact ⟨x, List.mem_filter.2 ⟨hx, by simpa using fun e => hn1 (by rw [← e]; exact hq)⟩, rfl⟩)
    refine ⟨i1, i2, ?_⟩
    rw [i3]
    show (delF f.nm D.fs).filter _ = _
    unfold delF
    rw [List.filter_filter]
    congr 1
    funext x
    simp [Bool.and_comm]
theorem rems_find {D : DskV} {l : List Bs} {nm : Bs} {k : Nat} (hd : D.dead = false) (hn : l.Nodup) (hm : ∀ nm ∈ l, ∃ f ∈ D.fs, f.nm = nm) (hk : k < l.length) (hnm : nm = l[k]) : ∃ f, findF nm (rems D (l.take k)).fs = some f ∧ (rems D (l.take k)).dead = false := by
  obtain ⟨h1, _, h3⟩ := rems_spec (l.take k) D hd (hn.sublist (List.take_sublist _ _)) (fun q hq => hm q (List.take_subset _ _ hq))
  obtain ⟨f, hf, hfn⟩ := hm nm (by rw [hnm]; exact List.getElem_mem hk)
  have hnot : nm ∉ l.take k := by
    have h2 : l = l.take k ++ l.drop k := (List.take_append_drop k l).symm
    rw [h2] at hn
    intro hq
    exact (List.nodup_append.1 hn).2.2 nm hq nm (by rw [hnm, List.drop_eq_getElem_cons hk]; exact List.mem_cons_self ..) rfl
  have hs : (findF nm (rems D (l.take k)).fs).isSome = true := find_some.2 (by
    rw [h3]
    exact List.mem_map.2 ⟨f, List.mem_filter.2 ⟨hf, by simpa [hfn] using hnot⟩, hfn⟩)
  obtain ⟨g, hg⟩ := Option.isSome_iff_exists.1 hs
  exact ⟨g, hg, h1⟩
end Go.Proofs.YtogfladmgbldcaaGreatDoor
namespace Go.Proofs.YtogfladmgbldcaaGreatDoor
open Go Go.RowKit
theorem append_where {P : Program} (w : World) (base : Nat) (t ty e : TypeId) (i : TypeInfo) (z : Value) (size bytes : Nat) (ht : P.underlying t = some (.slice e)) (hi : P.info? e = some i) (hz : i.zero = some z)
    (hsize : i.size = size) (hby : i.bytes = bytes) (hzs : z.cells.size = size) (hsz : 0 < size) (v : Value) (n : Nat) (xs : List Value) (hown : w.ownsRow base e size v n xs)
    (a : Addr) (m c : Nat) (news : List Value) (hl : news.length = m * size) (hnews : ∀ j u, news[j]? = some u → w.cell? (a.add j) = some u) (h1 : ∀ u ∈ news, u.oneCell' = true)
    (h63 : n + m ≤ maxLen) (hbytes : (n + m) * bytes ≤ 140737488355328) {v' : Value} {w' : World} (hr : (Builtin.append_ #[t, t] ty #[v, .slice (some a) m c]).run P w = .ok v' w') :
    ∀ k, v'.ownBlock = some k → v.ownBlock = some k ∨ w.heap.size ≤ k := by
  intro k hk
  have h63' := h63
  simp only [maxLen] at h63'
  rcases hown.2 with ⟨rfl, rfl⟩ | ⟨g, cap, cur, rfl, hbg, hg, hnc, hcm, hcs, htake⟩
  · have hx : xs = [] := List.eq_nil_of_length_eq_zero (by simpa using hown.1)
    subst hx
    obtain ⟨v2, w2, hr2, ho2, _, _⟩ := run_append_own (P := P) w w.heap.size t ty e i z size bytes ht hi hz hsize hby hzs hsz (.slice none 0 0) 0 [] (World.ownsRow_nil _ _ _ _) a m c news hl hnews h1 h63 hbytes (Nat.le_refl _)
    rw [hr] at hr2
    injection hr2 with e1 e2
    subst e1
    exact .inr (ho2.lt k hk).1
  · subst hsize
    by_cases hroom : n + m ≤ cap
    · have hfit : n * i.size + news.length ≤ cur.size := by rw [hl, hcs, ← Nat.add_mul]; exact Nat.mul_le_mul_right _ hroom
      have h2 := run_append_room (P := P) w t ty e i ht hi g n cap cur hg a m c news hl hnews h1 hroom hfit
      rw [hr] at h2
      injection h2 with e1 e2
      subst e1
      exact .inl hk
    · have holds : ∀ j u, xs[j]? = some u → w.cell? ((⟨g, 0, none⟩ : Addr).add j) = some u := hown.cells (g := g) rfl
      subst hby
      have h2 := run_append_grow (P := P) w t ty e i z ht hi hz ⟨g, 0, none⟩ n cap xs hown.1 holds a m c news hl hnews (by omega) (by omega) (growslice_fits (by omega) hbytes)
      rw [hr] at h2
      injection h2 with e1 e2
      subst e1
      simp [Value.ownBlock] at hk
      exact .inr (by omega)
theorem opIn_append2 {F : Fence} {n : Nat} {P : Program} (w : World) {o : Oper} {a : Act} {K : Act → World → Prop} {Q : Exit → Act → World → Prop}
    (s x : Operand) (t : TypeId) (hop : o.op = Op.call { callee := Callee.builtin Builtin.append, args := #[s, x], argTypes := #[t, t] })
    (base : Nat) (e : TypeId) (i : TypeInfo) (z : Value) (size bytes : Nat) (h1 : P.underlying t = some (.slice e)) (h2 : P.info? e = some i) (h3 : i.zero = some z) (h4 : i.size = size) (h5 : i.bytes = bytes) (h6 : z.cells.size = size) (h7 : 0 < size)
    (v : Value) (k : Nat) (xs : List Value) (hs : a.eval s = v) (hown : w.ownsRow base e size v k xs) (ad : Addr) (m c : Nat) (news : List Value) (hx : a.eval x = .slice (some ad) m c) (hn : news.length = m * size)
    (hc : ∀ j u, news[j]? = some u → w.cell? (ad.add j) = some u) (h1c : ∀ u ∈ news, u.oneCell' = true) (b1 : k + m ≤ maxLen) (b2 : (k + m) * bytes ≤ 140737488355328) (b3 : base ≤ w.heap.size)
    (hK : ∀ v' w', w'.ownsRow base e size v' (k + m) (xs ++ news) → w.grownBy w' v.ownBlock → (∀ q, v'.ownBlock = some q → v.ownBlock = some q ∨ w.heap.size ≤ q) → K (a.put o.dst v') w') :
    o.wpIn F n P a w K Q := by
  obtain ⟨v', w', hrun, r1, r2, r3⟩ := run_append_own (P := P) w base t o.type e i z size bytes h1 h2 h3 h4 h5 h6 h7 v k xs hown ad m c news hn hc h1c b1 b2 b3
  have r4 := append_where (P := P) w base t o.type e i z size bytes h1 h2 h3 h4 h5 h6 h7 v k xs hown ad m c news hn hc h1c b1 b2 hrun
  unfold Oper.wpIn
  refine ⟨?_, ?_⟩
  · simp [Oper.about, hop, resolve, Target.leads, Sem.run_pure]
  · rw [Oper.semAt_plain F _ _ (by rw [hop]; intro c hc'; cases hc')]
    simp [execOp, hop, resolve, invoke, builtin, hs, hx, hrun, Result.andThen]
    exact hK v' w' r1 r2 r4
theorem wpListIn_append2 {F : Fence} {n : Nat} {P : Program} (w : World) {ops : Array Oper} {rest : List Oper} {o : Oper} {a : Act} {Q : Exit → Act → World → Prop} (hg : o.guard = none)
    (s x : Operand) (t : TypeId) (hop : o.op = Op.call { callee := Callee.builtin Builtin.append, args := #[s, x], argTypes := #[t, t] })
    (base : Nat) (e : TypeId) (i : TypeInfo) (z : Value) (size bytes : Nat) (h1 : P.underlying t = some (.slice e)) (h2 : P.info? e = some i) (h3 : i.zero = some z) (h4 : i.size = size) (h5 : i.bytes = bytes) (h6 : z.cells.size = size) (h7 : 0 < size)
    (v : Value) (k : Nat) (xs : List Value) (hs : a.eval s = v) (hown : w.ownsRow base e size v k xs) (ad : Addr) (m c : Nat) (news : List Value) (hx : a.eval x = .slice (some ad) m c) (hn : news.length = m * size)
    (hc : ∀ j u, news[j]? = some u → w.cell? (ad.add j) = some u) (h1c : ∀ u ∈ news, u.oneCell' = true) (b1 : k + m ≤ maxLen) (b2 : (k + m) * bytes ≤ 140737488355328) (b3 : base ≤ w.heap.size)
    (hK : ∀ v' w', w'.ownsRow base e size v' (k + m) (xs ++ news) → w.grownBy w' v.ownBlock → (∀ q, v'.ownBlock = some q → v.ownBlock = some q ∨ w.heap.size ≤ q) → wpListIn F n P ops Q rest (a.put o.dst v') w') :
    wpListIn F n P ops Q (o :: rest) a w :=
  wpListIn_plain hg fun _ hK' => opIn_append2 w s x t hop base e i z size bytes h1 h2 h3 h4 h5 h6 h7 v k xs hs hown ad m c news hx hn hc h1c b1 b2 b3 (fun v' w' q1 q2 q3 => hK' _ _ (hK v' w' q1 q2 q3))
end Go.Proofs.YtogfladmgbldcaaGreatDoor
namespace Go.Proofs.YtogfladmgbldcaaGreatDoor
open Go.RowKit Go.Shelf
attribute [local go_sem] Oper.semAt_some
theorem allocs_below (l : List Obj) : ∀ (w : World) (n : Nat) (w0 : World), Below n w0 w → n ≤ w.heap.size → Below n w0 (l.foldl (fun w o => w.alloc o) w) := by
  induction l with
  | nil => intro w n w0 h _; exact h
  | cons o r ih => intro w n w0 h hn; exact ih (w.alloc o) n w0 (h.alloc hn o) (by simp; omega)
theorem allocs_at (l : List Obj) : ∀ (w : World) (i : Nat) (o : Obj), l[i]? = some o → (l.foldl (fun w o => w.alloc o) w).heap[w.heap.size + i]? = some o := by
  induction l with
  | nil => intro w i o h; simp at h
  | cons q r ih =>
    intro w i o h
    cases i with
    | zero =>
      simp at h
      subst h
      exact ((allocs_below r (w.alloc q) (w.alloc q).heap.size (w.alloc q) (Below.refl _ _) (Nat.le_refl _)).block _ (by simp)).trans (World.alloc_heap_new w q)
    | succ i =>
      have h2 := ih (w.alloc q) i o (by simpa using h)
      rw [World.size_alloc] at h2
      rw [show w.heap.size + (i + 1) = w.heap.size + 1 + i by omega]
      exact h2
def encS (l : List Bs) : List Value := l.map encStr
theorem DskAt.trim {w : World} {p b n : Nat} {C : Bs → Nat} {L : List Nat} {D : DskV} (h : DskAt w p b n C L D) : ∃ L', DskAt w p b n C L' D ∧ ∀ g ∈ L', g ∈ L ∧ g < w.heap.size := by
  refine ⟨p :: b :: D.fs.map (fun f => C f.nm), ⟨h.d, h.m, h.c, h.inj, ⟨by simp, by simp, h.pb.2.2⟩, fun f hf => ⟨by simp; exact .inr (.inr ⟨f, hf, rfl⟩), (h.cl f hf).2⟩, h.ris, h.syn, h.sum, h.fz⟩, fun g hg => ?_⟩
  rcases List.mem_cons.1 hg with rfl | hg
  · exact ⟨h.pb.1, h.lt⟩
  · rcases List.mem_cons.1 hg with rfl | hg
    · exact ⟨h.pb.2.1, h.m.lt⟩
    · obtain ⟨f, hf, rfl⟩ := List.mem_map.1 hg
      exact ⟨(h.cl f hf).1, (Array.getElem?_eq_some_iff.1 (h.c f hf)).1⟩
theorem infoStr : (Tryz.prog.info? 9).map (fun i => (i.zero, i.size, i.bytes)) = some (some (.string ⟨#[]⟩), 1, 16) := by kernel_rfl
theorem encS_one (l : List Bs) : ∀ u ∈ encS l, u.oneCell' = true := by
  intro u hu
  obtain ⟨x, _, rfl⟩ := List.mem_map.1 hu
  rfl
end Go.Proofs.YtogfladmgbldcaaGreatDoor
namespace Go.Proofs.YtogfladmgbldcaaGreatDoor
open Go.RowKit Go.Shelf
/-- A segment's name. -/
def sname (n : Nat) : Bs := 115 :: (List.replicate (8 - (Lib.itoa (n : Int)).length) 48 ++ Lib.itoa (n : Int))
theorem rep48 : ∀ k, Lib.repeatL [48] k = List.replicate k 48
  | 0 => rfl
  | k + 1 => by rw [Lib.repeatL, rep48 k, List.replicate_succ]; rfl
set_option maxRecDepth 100000 in
theorem lname_any (n : Nat) (hn : n ≤ 9223372036854775807) (hl : (Lib.itoa (n : Int)).length ≤ 8) (w : World) (hv : PV w) :
    Calls Tryz.prog 56 #[.int .i64 (n : Int)] w fun e w' => e = .returned (.string ⟨(sname n).toArray⟩) ∧ Below w.heap.size w w' := by
  have H := Lib.hid (itoa_any (n : Int) (by omega) (by omega) w hv)
  have HR := Lib.hid (fun (c : Nat) (hc : c ≤ 1000) (y : World) => show Calls Tryz.prog 70 #[.string ⟨#[48]⟩, .int .i64 (c : Int)] y fun e w' => e = .returned (.string ⟨(Lib.repeatL [48] c).toArray⟩) ∧ Below y.heap.size y w' from rep_any ⟨#[48]⟩ c y hc (by decide))
  clear hv hn
  obtain ⟨x, hx⟩ : ∃ x : ByteArray, x = ⟨(Lib.itoa (n : Int)).toArray⟩ := ⟨_, rfl⟩
  rw [← hx] at H
  have hxs : x.size = (Lib.itoa (n : Int)).length := by rw [hx]; simp [ByteArray.size]
  have hx16 : x.size ≤ 8 := by omega
  have HX0 := Lib.hid (And.intro hx hxs)
  clear hx hxs hl
  go_enter Tryz.func56, Tryz.ntmps56
  go_upto_region 2 with ((with_reducible refine H.out.mono ?_); rintro e w1 ⟨rfl, hb⟩; have HM := Lib.hid hb; clear hb)
  obtain ⟨c, hc⟩ : ∃ c, c = 8 - x.size := ⟨_, rfl⟩
  obtain ⟨Z, hZ⟩ : ∃ Z : ByteArray, Z = ⟨(Lib.repeatL [48] c).toArray⟩ := ⟨_, rfl⟩
  have hZs : Z.size = c := by rw [hZ]; simp [ByteArray.size, Lib.repeatL_length]
  have hc1 := HR.out c (by omega) w1
  have hw : wrap64 (8 - (x.size : Int)) = (c : Int) := by unfold wrap64; omega
  rw [← hZ] at hc1
  have HC := Lib.hid hc1
  have HC2 := Lib.hid (by have h2 := hc1; rw [show ((c : Nat) : Int) = 8 - (x.size : Int) by omega] at h2; exact h2)
  have hZ16 : Z.size ≤ 8 := by omega
  have HX := Lib.hid (And.intro hc hZ)
  have hn1 : (9223372036854775807 < 1 + Z.size) = False := by simp; omega
  have hn2 : (9223372036854775807 < 1 + Z.size + x.size) = False := by simp; omega
  clear hc hZ hZs hc1
  go_wp2_with (first
    | ((with_reducible refine HC.out.mono ?_); rintro e w2 ⟨rfl, hb⟩; have HB := Lib.hid hb; clear hb)
    | ((with_reducible refine HC2.out.mono ?_); rintro e w2 ⟨rfl, hb⟩; have HB := Lib.hid hb; clear hb))
  go_ret
  refine ⟨?_, HM.out.trans (HB.out.mono HM.out.size)⟩
  show Ending.returned (Value.string (({ data := #[115] } : ByteArray) ++ Z ++ x)) = _
  congr 2
  apply ByteArray.ext
  apply Array.toList_inj.1
  rw [ByteArray.data_append, ByteArray.data_append, Array.toList_append, Array.toList_append, HX0.out.1, HX.out.2, rep48, HX.out.1, HX0.out.2]
  show [115] ++ List.replicate (8 - (Lib.itoa (n : Int)).length) 48 ++ Lib.itoa (n : Int) = sname n
  unfold sname
  simp
/-- A segment's number, of a name. -/
def numN (nm : Bs) : Option Nat := if nm.length = 9 ∧ nm.headD 0 = 115 then (okOf (Lib.parseUintB 32 (nm.drop 1))).bind (fun n => if n = 0 then none else some n) else none
theorem okOf_le {l : Bs} {u : Nat} (h : okOf (Lib.parseUintB 32 l) = some u) : u ≤ 4294967295 := by
  cases hp : Lib.parseUintB 32 l with
  | ok v =>
    rw [hp] at h
    have h2 := Lib.parseUintB_le hp
    cases h
    exact h2
  | _ => rw [hp] at h; cases h
set_option maxRecDepth 100000 in
set_option maxHeartbeats 4000000 in
theorem lnum_any (x : ByteArray) (w : World) (hv : PV w) :
    Calls Tryz.prog 75 #[.string x] w fun e w' => e = .returned (.tuple #[.int .i64 (((numN x.data.toList).getD 0 : Nat) : Int), .bool (numN x.data.toList).isSome]) ∧ Below w.heap.size w w' := by
  have hxl : x.data.toList.length = x.size := Array.length_toList
  by_cases h9 : x.size = 9
  · have h9i : ((x.size : Int) != 9) = false := by rw [h9]; rfl
    obtain ⟨y, hy⟩ : ∃ y, y = x.extract 1 9 := ⟨_, rfl⟩
    have hyl : y.data.toList = x.data.toList.drop 1 := by
      rw [hy, ByteArray.data_extract, Array.toList_extract, List.extract_eq_take_drop, List.take_of_length_le (by rw [List.length_drop]; omega)]
    have hys : y.size = 8 := by
      have h := congrArg List.length hyl
      rw [List.length_drop, hxl] at h
      have h2 : y.data.toList.length = y.size := Array.length_toList
      omega
    have h0 : 0 < x.size := by omega
    have hhd : x.data.toList.headD 0 = x[0]'h0 := by
      have e : x.data.toList[0]? = some (x[0]'h0) := by
        rw [List.getElem?_eq_getElem (by omega)]
        rfl
      cases hd : x.data.toList with
      | nil => rw [hd] at hxl; simp at hxl; omega
      | cons b r => rw [hd] at e; simpa using e
    by_cases hb : x.data.toList.headD 0 = 115
    · have hbi : (((x[0]'h0).toNat : Int) != 115) = false := by rw [← hhd, hb]; rfl
      have hN : numN x.data.toList = (okOf (Lib.parseUintB 32 y.data.toList)).bind (fun n => if n = 0 then none else some n) := by
        unfold numN
        rw [if_pos ⟨by omega, hb⟩, hyl]
      have HP := Lib.hid (puint_any y (by omega) w hv)
      have hle := fun u => okOf_le (l := y.data.toList) (u := u)
      rw [hN]
      generalize okOf (Lib.parseUintB 32 y.data.toList) = R at *
      have Hy := Lib.hid hy
      clear hN hy hyl hys hxl hv hb hhd
      cases R with
      | none =>
        clear hle
        go_enter Tryz.func75, Tryz.ntmps75
        go_wp2_with (rw [← Hy.out]; go_at_call 79; refine HP.out.mono ?_; rintro e w1 ⟨hb, q, t, p, hq, rfl⟩; have HB := Lib.hid hb; clear hb hq)
        go_ret2
        exact ⟨rfl, HB.out⟩
      | some n =>
        have hn := hle n rfl
        clear hle
        by_cases hz : n = 0
        · subst hz
          go_enter Tryz.func75, Tryz.ntmps75
          go_wp2_with (rw [← Hy.out]; go_at_call 79; refine HP.out.mono ?_; rintro e w1 ⟨hb, rfl⟩; have HB := Lib.hid hb; clear hb)
          go_ret2
          exact ⟨rfl, HB.out⟩
        · rw [show (some n).bind (fun n => if n = 0 then none else some n) = some n by rw [Option.bind_some, if_neg hz]]
          have hn0 : ((n : Int) == 0) = false := by rw [beq_eq_false_iff_ne]; omega
          have hw : wrap64 (n : Int) = (n : Int) := by unfold wrap64; omega
          have HW := Lib.hid hw
          clear hz hn hw
          go_enter Tryz.func75, Tryz.ntmps75
          go_wp2_with (rw [← Hy.out]; go_at_call 79; refine HP.out.mono ?_; rintro e w1 ⟨hb, rfl⟩; have HB := Lib.hid hb; clear hb)
          go_ret2
          refine ⟨?_, HB.out⟩
          show Ending.returned (.tuple #[.int .i64 (wrap64 (n : Int)), .bool true]) = _
          rw [HW.out]
          rfl
    · have hbi : (((x[0]'h0).toNat : Int) != 115) = true := by
        rw [← hhd, bne_iff_ne]
        intro q
        apply hb
        apply UInt8.toNat_inj.1
        show _ = 115
        omega
      rw [show numN x.data.toList = none by unfold numN; rw [if_neg (fun h => hb h.2)]]
      clear hv hxl hy hyl hys hhd hb
      go_enter Tryz.func75, Tryz.ntmps75
      go_wp2
      go_ret2
      exact ⟨rfl, Below.refl _ _⟩
  · have h9i : ((x.size : Int) != 9) = true := by rw [bne_iff_ne]; omega
    rw [show numN x.data.toList = none by unfold numN; rw [if_neg (fun h => h9 (by rw [← hxl]; exact h.1))]]
    clear h9 hv hxl
    go_enter Tryz.func75, Tryz.ntmps75
    go_wp2
    go_ret2
    exact ⟨rfl, Below.refl _ _⟩
end Go.Proofs.YtogfladmgbldcaaGreatDoor
namespace Go.Proofs.YtogfladmgbldcaaGreatDoor
open Go Go.RowKit
/-- An iterator's law: it names the blocks that are its own when it has laid them; all of them are new; whatever the rounds do, they leave what the iterator reads (Rd). -/
def SeqE {α : Type} (F : Fence) (n : Nat) (P : Program) (g : Nat) (lb : Array Value) (encs : α → Array Value) (S Sp : List α → Prop) (Rd : World → Prop) (T : List Nat) (Fin : List α → World → Prop) (w : World) : Prop :=
  ∀ (l : Nat) (J Jx : (Nat → Prop) → List α → World → Prop) (W : World), Below w.heap.size w W → (∀ Y, NewY Y W → AbidesZ Y (J Y)) → (∀ Y, NewY Y W → AbidesZ Y (Jx Y)) → (∀ Y pre W1, J Y pre W1 → Rd W1) →
    (∀ Y xs W1 W2, NewY Y W → S xs → J Y xs W1 → Turns T W1 W2 → Fin xs W2 → J Y xs W2) →
    (∀ Y pre x W1, NewY Y W → J Y pre W1 → (∀ r, Y r → r < W1.heap.size) → Sp (pre ++ [x]) → YieldAt F (n - 1) P l (encs x) W1 fun e W' =>
      (e = .returned (.bool true) ∧ J Y (pre ++ [x]) W' ∧ KeptZ Y W1 W') ∨ (e = .returned (.bool false) ∧ Jx Y (pre ++ [x]) W' ∧ KeptZ Y W1 W')) →
    (∀ Y, NewY Y W → J Y [] W) →
    CallsIn F n P g (#[.func (.yield l) #[] #[]] ++ lb) W fun e W' => (∃ v, e = .returned v) ∧ ∃ Y : Nat → Prop, NewY Y W ∧ ((∃ xs, S xs ∧ J Y xs W' ∧ Fin xs W') ∨ (∃ pre, Sp pre ∧ Jx Y pre W'))
variable {F : Fence} {n : Nat} {P : Program}
theorem wpIn_rangeE {α : Type} {g : Operand} {ps : Array Tmp} {assign body : Code} {Q : Exit → Act → World → Prop} {a : Act} {w : World}
    (hro : F.round = none) (h1 : 1 ≤ n) {gf : Nat} {lb : Array Value} (hg : a.eval g = .func (.func gf) #[] lb) (hFg : F.fn gf) (eg : ∀ args w, (callFunc gf args).run P w = .ok (.enter gf args) w)
    {encs : α → Array Value} {S Sp : List α → Prop} {Rd : World → Prop} {T : List Nat} {Fin : List α → World → Prop} {w0 : World} (hseq : SeqE F (n - 1) P gf lb encs S Sp Rd T Fin w0) (hT : ∀ r ∈ T, r < w0.heap.size) (hFin : AbidesZ (fun r => w0.heap.size ≤ r) Fin) (hb0 : Below w0.heap.size w0 w) (hps : ∀ x, (encs x).size = ps.size)
    (I : (Nat → Prop) → List α → World → Prop) (Ix : (Nat → Prop) → Code → List α → World → Prop) (hI : ∀ Y, NewY Y w → AbidesZ Y (I Y)) (hIx : ∀ Y, NewY Y w → ∀ c, AbidesZ Y (Ix Y c)) (hRd : ∀ Y pre W, I Y pre W → Rd W) (hIT : ∀ Y xs W W', NewY Y w → S xs → I Y xs W → Turns T W W' → Fin xs W' → I Y xs W')
    (h0 : ∀ Y, NewY Y w → I Y [] w) (a₁ : α → Act)
    (hassign : ∀ (l : Nat) (x : α) (W : World) (K : Act → World → Prop), K (a₁ x) W →
      assign.wpIn (F.inRound l) (n - 1 - 1) P (Exit.then K (fun _ _ _ => False)) { tmps := (ps.zip (encs x)).foldl (fun t (p, v) => t.setIfInBounds p v) a.tmps, defers := [] } W)
    (hbody : ∀ (l : Nat) (Y : Nat → Prop) (pre : List α) (x : α) (W : World), NewY Y w → (∀ r, Y r → r < W.heap.size) → I Y pre W → Sp (pre ++ [x]) → body.wpIn (F.inRound l) (n - 1 - 1) P (ownPostZ Y (I Y) (Ix Y) (pre ++ [x]) W) (a₁ x) W)
    (hdone : ∀ (Y : Nat → Prop) (xs : List α) (W : World), NewY Y w → Y w.heap.size → S xs → I Y xs W → Fin xs W → W.heap[w.heap.size]? = some (.deferred (some [])) → Q .normal { a with defers := { target := .collected w.heap.size, args := #[] } :: a.defers } W)
    (hstop : ∀ (Y : Nat → Prop) (c : Code) (pre : List α) (W : World), NewY Y w → Y w.heap.size → Sp pre → Ix Y c pre W → W.heap[w.heap.size]? = some (.deferred (some [])) → c.wpIn F n P Q { a with defers := { target := .collected w.heap.size, args := #[] } :: a.defers } W) :
    (Code.rangeFunc g ps assign body).wpIn F n P Q a w := by
  refine wpIn_rangeFunc (fun fn hfn => ?_)
  rw [hro]
  have hDd : ∀ {X : Nat → Prop}, NewY X w → ∀ r, X r → w.heap.size ≤ r := fun h r hr => h r hr
  generalize hD : w.heap.size = D at *
  let rec0 : LoopState → Option Code → Obj := fun st pe => .loop { state := st, pending := pe, fn, tmps := a.tmps, params := ps, assign, body, defers := D }
  let V := (w.alloc (.deferred (some []))).alloc (rec0 .ready none)
  have sV : V.heap.size = D + 2 := by simp [V, hD]
  have rV : V.heap[D + 1]? = some (rec0 .ready none) := by
    have h := World.alloc_heap_new (w.alloc (.deferred (some []))) (rec0 .ready none)
    rwa [World.size_alloc, hD] at h
  have dV : V.heap[D]? = some (.deferred (some [])) := by
    have h := World.alloc_heap_new w (.deferred (some []))
    rw [hD] at h
    exact (Below.heap_alloc _ _ _ (by rw [World.size_alloc]; omega)).trans h
  have bw : Below w.heap.size w V := ((Below.refl _ w).alloc (Nat.le_refl _) _).alloc (by simp) _
  have bV : Below w0.heap.size w0 V := hb0.trans (bw.mono hb0.size)
  let Zo : (Nat → Prop) → Nat → Prop := fun Y r => Y r ∨ r = D ∨ r = D + 1
  have zN : ∀ Y, NewY Y V → NewY (Zo Y) w := fun Y hY r hr => by
    rcases hr with h | h | h
    · have := hY r h; omega
    · omega
    · omega
  have iV : ∀ Y, NewY Y V → I (Zo Y) [] V := fun Y hY => hI _ (zN Y hY) _ _ _ none (h0 _ (zN Y hY)) ⟨bw.os, bw.tape, bw.output, bw.size, fun q hq _ => bw.block q hq⟩ (fun r e => by cases e)
  have turn : ∀ {β : Type} {Y : Nat → Prop} {J : β → World → Prop} (_ : AbidesZ (Zo Y) J) {s : β} {A : World} (o : Obj), J s A → J s (A.putObj (D + 1) o) := @fun β Y J hJ s A o h => hJ s A _ (some (D + 1)) h (grownBy_putObj' A (D + 1) o) (fun r e => by cases e; exact .inr (.inr rfl))
  refine ⟨D + 1, [{ target := .collected D, args := #[] }], V, { target := .fn (.func gf) lb, args := #[.func (.yield (D + 1)) #[] #[]] }, V, gf, #[.func (.yield (D + 1)) #[] #[]] ++ lb, V, ?_, ?_, ?_, ?_, fun _ => h1, ?_⟩
  · subst hD; exact run_enterLoop_outer _ _ _ _ _
  · simp only [resolve, hg]; simp [go_sem]
  · intro f' hf'; simp [Target.leads] at hf'; subst hf'; exact hFg
  · simp [invoke, go_sem, eg]
  have yD : ∀ {Y : Nat → Prop}, NewY Y V → ¬ Y D := fun hY h => by have := hY _ h; omega
  have yL : ∀ {Y : Nat → Prop}, NewY Y V → ¬ Y (D + 1) := fun hY h => by have := hY _ h; omega
  have abide : ∀ {Y : Nat → Prop} {A B : World} {row : Option Nat} {q : Nat} {o : Obj}, A.grownBy B row → (∀ r, row = some r → Y r) → ¬ Y q → A.heap[q]? = some o → B.heap[q]? = some o := fun hg hr hq h =>
    (hg.block _ (Array.getElem?_eq_some_iff.1 h).1 (fun e => hq (hr _ e.symm))).trans h
  refine (hseq (D + 1) (fun Y pre W => I (Zo Y) pre W ∧ W.heap[D + 1]? = some (rec0 .ready none) ∧ W.heap[D]? = some (.deferred (some [])))
    (fun Y pre W => ∃ c, Ix (Zo Y) c pre W ∧ W.heap[D + 1]? = some (rec0 .done (some c)) ∧ W.heap[D]? = some (.deferred (some []))) V bV
    (fun Y hY s A B row hs hg' hr => ⟨hI _ (zN Y hY) s A B row hs.1 hg' (fun r e => .inl (hr r e)), abide hg' hr (yL hY) hs.2.1, abide hg' hr (yD hY) hs.2.2⟩)
    (fun Y hY s A B row hs hg' hr => hs.elim fun c hc => ⟨c, hIx _ (zN Y hY) c s A B row hc.1 hg' (fun r e => .inl (hr r e)), abide hg' hr (yL hY) hc.2.1, abide hg' hr (yD hY) hc.2.2⟩)
    (fun Y pre W1 h => hRd _ _ _ h.1) (fun Y xs W1 W2 hY hS h ht hf => ⟨hIT _ xs W1 W2 (zN Y hY) hS h.1 ht hf, (ht.block _ (Array.getElem?_eq_some_iff.1 h.2.1).1 (fun q => by have := hT _ q; have := hb0.size; omega)).trans h.2.1, (ht.block _ (Array.getElem?_eq_some_iff.1 h.2.2).1 (fun q => by have := hT _ q; have := hb0.size; omega)).trans h.2.2⟩) ?_ (fun Y hY => ⟨iV Y hY, rV, dV⟩)).mono ?_
  · rintro Y pre x W hY ⟨hi, hl, hk⟩ hsz hSp
    have hlt : D + 1 < W.heap.size := (Array.getElem?_eq_some_iff.1 hl).1
    have hItu := hI _ (zN Y hY)
    have hIxu := hIx _ (zN Y hY)
    have zD : Zo Y D := .inr (.inl rfl)
    have zL : Zo Y (D + 1) := .inr (.inr rfl)
    have hzz : ∀ r, Zo Y r → r < W.heap.size := fun r hr => by
      rcases hr with h | h | h
      · exact hsz r h
      · omega
      · omega
    refine ⟨fn, _, assign, body, run_yield (P := P) (args := encs x) hl (hps x), roundIn_of_wpIn hfn (wpIn_mono (hassign (D + 1) x W (fun a' W' => a' = a₁ x ∧ W' = W) ⟨rfl, rfl⟩) (fun e a1 W1 he => ?_))⟩
    cases e with
    | normal =>
      obtain ⟨rfl, rfl⟩ := he
      refine ⟨_, run_beginRound hl rfl, wpIn_mono (hbody (D + 1) (Zo Y) pre x _ (zN Y hY) (fun r hr => by simpa using hzz r hr) (turn hItu _ hi) hSp) ?_⟩
      generalize hW2 : W1.putObj (D + 1) _ = W2
      have hl2 : W2.heap[D + 1]? = some (rec0 .busy none) := by rw [← hW2]; exact World.putObj_heap_same hlt
      have hk2 : W2.heap[D]? = some (.deferred (some [])) := by rw [← hW2]; exact (World.putObj_heap_other (by omega)).trans hk
      have ky : KeptZ Y W1 W2 := by rw [← hW2]; exact KeptZ.put (yL hY) _
      have yZ : ∀ r, Y r → Zo Y r := fun r hr => .inl hr
      have fin : ∀ (jump : Option Code) (W3 : World), KeptZ (Zo Y) W2 W3 → W3.heap[D + 1]? = some (rec0 .busy none) ∧ W3.heap[D]? = some (.deferred (some [])) ∧
          (Instr.endRound (D + 1) jump).run P W3 = .ok (.bool jump.isNone) (W3.putObj (D + 1) (rec0 (if jump.isNone then .ready else .done) jump)) := fun jump W3 k3 =>
        ⟨k3 _ _ zL hl2, k3 _ _ zD hk2, run_endRound (P := P) jump (k3 _ _ zL hl2)⟩
      have rest : ∀ (st : LoopState) (pe : Option Code) (W3 : World), W3.heap[D + 1]? = some (rec0 .busy none) → W3.heap[D]? = some (.deferred (some [])) →
          (W3.putObj (D + 1) (rec0 st pe)).heap[D + 1]? = some (rec0 st pe) ∧ (W3.putObj (D + 1) (rec0 st pe)).heap[D]? = some (.deferred (some [])) := fun st pe W3 h2 h3 =>
        ⟨World.putObj_heap_same (Array.getElem?_eq_some_iff.1 h2).1, (World.putObj_heap_other (by omega)).trans h3⟩
      intro e2 a3 W3 hp
      cases e2 with
      | normal =>
        obtain ⟨k3, i3⟩ := hp
        obtain ⟨h2, h3, hrun⟩ := fin none W3 k3
        exact ⟨_, _, hrun, .inl ⟨rfl, ⟨turn hItu _ i3, rest _ _ _ h2 h3⟩, (ky.trans (k3.sub yZ)).trans (KeptZ.put (yL hY) _)⟩⟩
      | ret =>
        obtain ⟨h2, h3, hrun⟩ := fin (some .ret) W3 hp.1
        exact ⟨_, _, hrun, .inr ⟨rfl, ⟨.ret, turn (hIxu _) _ hp.2, rest _ _ _ h2 h3⟩, (ky.trans (hp.1.sub yZ)).trans (KeptZ.put (yL hY) _)⟩⟩
      | exit id =>
        obtain ⟨h2, h3, hrun⟩ := fin (some (.exit id)) W3 hp.1
        exact ⟨_, _, hrun, .inr ⟨rfl, ⟨.exit id, turn (hIxu _) _ hp.2, rest _ _ _ h2 h3⟩, (ky.trans (hp.1.sub yZ)).trans (KeptZ.put (yL hY) _)⟩⟩
      | goto t =>
        obtain ⟨h2, h3, hrun⟩ := fin (some (.goto t)) W3 hp.1
        exact ⟨_, _, hrun, .inr ⟨rfl, ⟨.goto t, turn (hIxu _) _ hp.2, rest _ _ _ h2 h3⟩, (ky.trans (hp.1.sub yZ)).trans (KeptZ.put (yL hY) _)⟩⟩
      | panic ch => exact hp.elim
      | outgrown => exact hp.elim
    | exit id => exact he.elim
    | goto t => exact he.elim
    | ret => exact he.elim
    | panic ch => exact he.elim
    | outgrown => exact he.elim
  · rintro e W2 ⟨⟨v, rfl⟩, Y, hY, (⟨xs, hS, ⟨hi, hl, hk⟩, hf⟩ | ⟨pre, hSp, c, hi, hl, hk⟩)⟩
    · exact ⟨none, _, run_endLoop (P := P) hl (by simp), hdone (Zo Y) xs _ (zN Y hY) (.inr (.inl rfl)) hS (turn (hI _ (zN Y hY)) _ hi) (hFin _ _ _ (some (D + 1)) hf (grownBy_putObj' _ (D + 1) _) (fun r e => by cases e; have := hb0.size; omega)) ((World.putObj_heap_other (by omega)).trans hk)⟩
    · exact ⟨some c, _, run_endLoop (P := P) hl (by simp), hstop (Zo Y) c pre _ (zN Y hY) (.inr (.inl rfl)) hSp (turn (hIx _ (zN Y hY) c) _ hi) ((World.putObj_heap_other (by omega)).trans hk)⟩
end Go.Proofs.YtogfladmgbldcaaGreatDoor
