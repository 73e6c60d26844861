/- Log: Add. Condition: as each theorem says. -/
import Derived.Test.YtogfladmgbldcaaGreatDoorZLogKnown10
namespace Go.Proofs.YtogfladmgbldcaaGreatDoor
open Go.RowKit Go.Shelf
theorem putF3_nil (x : Bs) (h : frOk x) : putF3 [] x = (frL x, 0) := by unfold putF3; rw [if_pos h]; rfl
/-- Add, where it has read the segments. -/
structure AddW (l p bb : Nat) (L : List Nat) (D : DskV) (B : Nat) (F : Bs) (vb : Value) (b2 b5 : Nat) (w y : World) : Prop where
  lor : LoR l p bb L D w y
  r2 : y.heap[b2]? = some (.cells #[.pointer (some ⟨l, 0, none⟩)] 51 (0, 0))
  r5 : y.heap[b5]? = some (.cells #[vb] 42 (0, 0))
  own : OwnB y B 5 vb F
  far : (∀ g ∈ L, g < B) ∧ B ≤ b2 ∧ B ≤ b5 ∧ B ≤ w.heap.size
theorem AddW.below {l p bb B b2 b5 : Nat} {L : List Nat} {D : DskV} {F : Bs} {vb : Value} {w y y' : World} (h : AddW l p bb L D B F vb b2 b5 w y) (hb : Below y.heap.size y y') : AddW l p bb L D B F vb b2 b5 w y' :=
  ⟨h.lor.below hb, (hb.block _ (Array.getElem?_eq_some_iff.1 h.r2).1).trans h.r2, (hb.block _ (Array.getElem?_eq_some_iff.1 h.r5).1).trans h.r5, h.own.below hb, h.far⟩
theorem AddW.on {l p bb B b2 b5 : Nat} {L : List Nat} {D D' : DskV} {F : Bs} {vb : Value} {w y y' : World} (h : AddW l p bb L D B F vb b2 b5 w y) (hw : w = y) (h' : LoR l p bb L D' y y') : AddW l p bb L D' B F vb b2 b5 y y' := by
  subst hw
  have kp : ∀ g o, B ≤ g → w.heap[g]? = some o → y'.heap[g]? = some o := fun g o hg ho => (h'.t.block g (Array.getElem?_eq_some_iff.1 ho).1 (fun q => by have := h.far.1 g q; omega)).trans ho
  exact ⟨h', kp _ _ h.far.2.1 h.r2, kp _ _ h.far.2.2.1 h.r5, own_stay h.own (fun k hk hB hl => by rw [kp k _ hB (Array.getElem?_eq_getElem hl), Array.getElem?_eq_getElem hl]), h.far⟩
theorem AddW.cells {l p bb B b2 b5 : Nat} {L : List Nat} {D : DskV} {F : Bs} {vb : Value} {w y : World} (h : AddW l p bb L D B F vb b2 b5 w y) : y.cell? ⟨l, 0, none⟩ = some (.pointer (some ⟨p, 0, none⟩)) ∧ (True ∧ y.cell? ⟨b2, 0, none⟩ = some (.pointer (some ⟨l, 0, none⟩)) ∧ y.cell? ⟨b5, 0, none⟩ = some vb) ∧ ReadB y vb F :=
  ⟨h.lor.cell, ⟨trivial, cell_of_row _ _ 0 _ _ _ h.r2, cell_of_row _ _ 0 _ _ _ h.r5⟩, h.own.read⟩
set_option maxRecDepth 100000 in
set_option maxHeartbeats 16000000 in
theorem ladd_any {l p bb : Nat} {L : List Nat} {D : DskV} {w0 y : World} (h0 : LoR l p bb L D w0 y) (hlen : D.fs.length ≤ 100000) (hsm : ∀ x ∈ segL D.fs, x.1 ≤ 208) (x : ByteArray) (hx : x.size ≤ 1000000) :
    Calls Tryz.prog 27 #[.pointer (some ⟨l, 0, none⟩), .string x] y fun e y' => e = .returned (.int .i64 ((laddD D x.data.toList).2 : Int)) ∧ LoR l p bb L (laddD D x.data.toList).1 w0 y' := by
  obtain ⟨L1, h, hL1, hback⟩ := h0.re
  have HBK := Lib.hid hback
  clear h0 hback
  obtain ⟨R, hR⟩ : ∃ R, R = laddD D x.data.toList := ⟨_, rfl⟩
  rw [← hR]
  have Hp := Lib.hid (fun (z : World) => fput_any (.slice none 0 0) [] x (by simp) (by unfold maxLen; omega) z (ReadB.nil z))
  have H := Lib.hid (And.intro h (And.intro hL1 (And.intro hlen hsm)))
  have HXS := Lib.hid hx
  unfold laddD at hR
  clear h hL1 hlen hsm hx
  by_cases hf : frOk x.data.toList
  · rw [if_neg (fun q => q hf)] at hR
    obtain ⟨F, hF⟩ : ∃ F, F = frL x.data.toList := ⟨_, rfl⟩
    rw [← hF] at hR
    have HP := Lib.hid (show ∀ z : World, Calls Tryz.prog 37 #[.slice none 0 0, .string x] z (fun e w' => ∃ v', e = .returned (.tuple #[v', .int .i64 0]) ∧ OwnB w' z.heap.size 5 v' F ∧ Below z.heap.size z w') from fun z => by have h2 := Hp.out z; rw [putF3_nil _ hf, ← hF] at h2; exact h2)
    have HSG := Lib.hid (fun (z : World) (hz : LoR l p bb L1 D y z) => hz.segs (by have := H.out.2.2.1; omega))
    have hFl : F.length ≤ 10000000 := by
      rw [hF, frL_len]
      have h1 := (numL_len x.data.toList.length).1
      have h2 := str_len x
      have := HXS.out
      omega
    have HRR := Lib.hid (And.intro hR hFl)
    clear hf hR hF hFl
    go_enter Tryz.func27, Tryz.ntmps27
    go_upto_region 7 with (first
      | (go_at_call 37; (with_reducible refine (HP.out _).mono ?_); rintro e w2 ⟨vb, rfl, ho, hb⟩; obtain ⟨va, vn, vc, rfl⟩ := ho.read.slice; have H2 := Lib.hid (And.intro ho hb); clear ho hb
         have hb1 := (Below.refl y.heap.size y).alloc (Nat.le_refl _) (.cells #[.pointer (some ⟨l, 0, none⟩)] 51)
         have r2 := (H2.out.2.block y.heap.size (by simp)).trans (heap_alloc_new y (.cells #[.pointer (some ⟨l, 0, none⟩)] 51))
         have hb2 := hb1.trans (H2.out.2.mono hb1.size)
         have hbX := hb2.alloc hb2.size (.cells #[.slice va vn vc] 42)
         have hA : AddW l p bb L1 D y.heap.size F (.slice va vn vc) y.heap.size w2.heap.size y (w2.alloc (.cells #[.slice va vn vc] 42)) := ⟨H.out.1.below hbX, (heap_alloc_old _ _ (Array.getElem?_eq_some_iff.1 r2).1).trans r2, heap_alloc_new _ _, (H2.out.1.mono hb1.size).alloc _, ⟨H.out.2.1, Nat.le_refl _, hb2.size, Nat.le_refl _⟩⟩
         have HA := Lib.hid (And.intro hA hbX)
         have q2 := cell_of_row _ _ 0 _ _ _ hA.r2
         have q3 := hA.lor.cell
         clear hb1 r2 hb2 hbX hA)
      | (go_at_call 51; (with_reducible refine (HSG.out _ HA.out.1.lor).mono ?_); rintro e w4 ⟨v, rfl, hs, hL, hb⟩; have HA4 := Lib.hid (And.intro (HA.out.1.below hb) (And.intro hs (HA.out.2.trans (hb.mono HA.out.2.size)))); obtain ⟨A, c, rfl, -⟩ := hs; clear hL hb q2 q3))
    generalize w2.heap.size = b5 at *
    obtain ⟨N, hN⟩ : ∃ N, N = (segL D.fs).length := ⟨_, rfl⟩
    have HNN := Lib.hid hN
    rw [← hN]
    have HSR := Lib.hid (by have h2 := HA4.out.2.1; rw [← hN] at h2; exact h2)
    have HW := Lib.hid HA4.out.1
    have HBL := Lib.hid HA4.out.2.2
    clear hN HA4 HA H2
    have hz0 : y.heap.size ≤ w4.heap.size := HW.out.lor.t.size
    have HL4 := Lib.hid (fun (z : World) (hz : Below w4.heap.size w4 z) => show LoR l p bb L1 D z z from H.out.1.at H.out.2.1 (HBL.out.trans (hz.mono HBL.out.size)))
    have hN6 : N ≤ 100000 := by rw [HNN.out]; exact Nat.le_trans (segL_len D.fs) H.out.2.2.1
    obtain ⟨fb, hfb⟩ : ∃ fb : ByteArray, fb = ⟨F.toArray⟩ := ⟨_, rfl⟩
    have HFB := Lib.hid (And.intro hfb (And.intro (show fb.data.toList = F from by rw [hfb]) (show fb.size ≤ maxLen from by rw [hfb]; show F.toArray.size ≤ _; rw [List.size_toArray]; have := HRR.out.2; unfold maxLen; omega)))
    have HCK := Lib.hid (fun (z : World) (hz : Below w4.heap.size w4 z) => (HW.out.below hz).cells)
    clear hfb
    cases hl : lastS D with
    | none =>
      have hs : segL D.fs = [] := List.getLast?_eq_none_iff.1 hl
      have hn0 : N = 0 := by rw [HNN.out, hs]; rfl
      have hR := HRR.out.1
      rw [hl] at hR
      dsimp only at hR
      obtain ⟨nb, hnb⟩ : ∃ nb : ByteArray, nb = ⟨(sname 1).toArray⟩ := ⟨_, rfl⟩
      have hnl : (sname 1).length = 9 := sname_len (by omega) (by omega)
      have HNM := Lib.hid (fun (z : World) (hz : Below w4.heap.size w4 z) => (show Calls Tryz.prog 56 #[.int .i64 1] z (fun e w' => e = .returned (.string nb) ∧ Below z.heap.size z w') from by
        rw [hnb]
        exact lname_any 1 (by omega) (sname_itoa (by omega) (by omega)) z (HW.out.below hz).lor.pv))
      have HAC := Lib.hid (fun (z : World) (hz : Below w4.heap.size w4 z) => (show Calls Tryz.prog 18 #[.pointer (some ⟨p, 0, none⟩), .string nb, .string fb] z (fun e w' => e = .returned (.int .i64 (R.2 : Int)) ∧ LoR l p bb L1 R.1 y w') from by
        have h2 := (HW.out.below hz).lor.act (R := appD D nb.data.toList fb.data.toList) (f := 18) (args := #[.pointer (some ⟨p, 0, none⟩), .string nb, .string fb]) (fun n C L1 hd hlt => append_any nb fb (by rw [hnb]; show (sname _).toArray.size ≤ _; rw [List.size_toArray, hnl]; decide) HFB.out.2.2 z hd hlt)
        rw [show nb.data.toList = sname 1 from by rw [hnb], HFB.out.2.1, ← hR] at h2
        exact h2))
      clear hl hs hR hnb hnl
      subst hn0
      go_upto_region 8 with fail
      refine (wpIn_wide (n := 1)).1 ?_
      refine RegK.wpIn_region_can (F := Fence.wide) (KeptW w4) [(0, 0), (1, 0), (2, 0), (3, 0), (5, 0), (6, 0), (4, 1), (7, 3), (8, 0)] (by kernel_rfl) (by kernel_rfl) (by kernel_rfl) (fun _ _ d _ _ h => by cases d <;> exact h) ⟨rfl, rfl, rfl, Nat.le_refl _, fun _ _ => rfl⟩ ?_
      dsimp only [RegK.pick, List.getElem?_cons_zero, List.getElem?_cons_succ]
      change RegK.Can _ _ _ _ _ _ _ _ w4.drew
      have hkd : KeptW w4 w4.drew := ⟨rfl, rfl, rfl, Nat.le_refl _, fun _ _ => rfl⟩
      generalize w4.drew = v8 at *
      refine RegK.can_reads ?_
      intro K hK
      go_simp
      refine ⟨.pointer (some ⟨l, 0, none⟩), fun q hy => ?_, hK _ ?_⟩
      · have c0 := (HCK.out _ (KeptW.bel hy)).2.1.2.1
        go_simp
      clear hK K
      iterate 2 (refine RegK.can_reads ?_; intro K hK; go_simp; (first | refine ⟨_, fun _ _ => rfl, hK _ ?_⟩ | refine hK _ ?_); clear hK K)
      refine RegK.can_reads ?_
      intro K hK
      go_simp
      refine ⟨.pointer (some ⟨p, 0, none⟩), fun q hy => ?_, hK _ ?_⟩
      · have c0 := (HCK.out _ (KeptW.bel hy)).1
        go_simp
      clear hK K
      refine RegK.can_reads ?_
      intro K hK
      go_simp
      refine ⟨.slice va vn vc, fun q hy => ?_, hK _ ?_⟩
      · have c0 := (HCK.out _ (KeptW.bel hy)).2.1.2.2
        go_simp
      clear hK K
      refine RegK.can_reads ?_
      intro K hK
      go_simp
      refine ⟨.string fb, fun q hy => ?_, hK _ ?_⟩
      · have hcv := ((HCK.out q (KeptW.bel hy)).2.2.conv (P := Tryz.prog) (src := 42) (dst := 9) (e := 5) Tryz.underlying42 Tryz.underlying5 Tryz.underlying9); rw [← HFB.out.1] at hcv
        go_simp
      clear hK K
      refine RegK.can_turns (fun _ => trivial) ?_
      intro K K0 hK hK0
      go_simp
      refine ⟨trivial, ?_⟩
      refine (callsIn_wide.2 (HNM.out v8 (KeptW.bel hkd))).mono ?_
      rintro e v2 ⟨rfl, hb7⟩
      have v2k : KeptW w4 v2 := KeptW.mono hkd hb7
      refine hK _ _ v2k ?_
      clear hK K hK0 K0
      refine RegK.can_frees (fun _ => trivial) ?_
      intro K K0 hK hK0
      go_simp
      refine ⟨trivial, ?_⟩
      refine (callsIn_wide.2 (HAC.out v2 (KeptW.bel v2k))).mono ?_
      rintro e w9 ⟨rfl, hz9⟩
      refine hK (fun _ => True) _ _ trivial ?_
      clear hK K hK0 K0
      refine RegK.can_reads ?_; intro K hK; go_simp; (first | refine ⟨_, fun _ _ => rfl, hK _ ?_⟩ | refine hK _ ?_); clear hK K
      refine RegK.can_nil ?_
      have HZ := Lib.hid (HBK.out _ _ hz9)
      clear hz9
      go_wp2
      go_ret
      exact ⟨rfl, HZ.out⟩
    | some s =>
      obtain ⟨M, hM, hxs, hxm⟩ := last_at hl
      have hnl := seg_nm hxm
      have hNM : N = M + 1 := by rw [HNN.out]; exact hM
      obtain ⟨A', c', hv, Y, hY1, hY2⟩ := HSR.out
      injection hv with e1 e2 e3
      subst e1 e3
      obtain ⟨gk, rfl, hck⟩ := hY2 M s hxs
      obtain ⟨k0, k1, k2, k3⟩ := hck w4 (KeptZ.refl _ _)
      obtain ⟨sb, hsb⟩ : ∃ sb : ByteArray, sb = ⟨s.2.by_.toArray⟩ := ⟨_, rfl⟩
      have hsz : sb.size = s.2.by_.length := by rw [hsb]; simp [ByteArray.size]
      rw [← hsb] at k2
      obtain ⟨nb, hnb⟩ : ∃ nb : ByteArray, nb = ⟨s.2.nm.toArray⟩ := ⟨_, rfl⟩
      rw [← hnb] at k1
      have hR := HRR.out.1
      rw [hl] at hR
      dsimp only at hR
      have hs8 := H.out.2.2.2 s hxm
      have HS := Lib.hid (And.intro hs8 (And.intro hnb (And.intro hnl hsz)))
      have hMn : M < N := by omega
      have hMI : (M : Int) < (N : Int) := by omega
      have hw1 : wrap64 ((N : Int) - 1) = (M : Int) := by unfold wrap64; omega
      have hNz : ((N : Int) == 0) = false := by rw [beq_eq_false_iff_ne]; omega
      have HNM := Lib.hid hNM
      rw [show M = N - 1 by omega] at k0 k1 k2 k3
      clear hl hM hxs hxm hnl hNM e2 hY1 hY2 hck hsb hnb hs8
      by_cases hlt : s.2.by_.length < 1024
      · rw [if_pos hlt] at hR
        have hl1 : sb.size < 1024 := by omega
        have HR1 := Lib.hid hR
        clear hR hlt hsz
        go_upto_region 10 with fail
        have hb5 := (Below.refl w4.heap.size w4).alloc (Nat.le_refl _) (.cells #[.int .i64 (s.1 : Int), .string nb, .string sb, .int .i64 (s.2.sy : Int)] 97)
        have r8 : (w4.alloc (.cells #[.int .i64 (s.1 : Int), .string nb, .string sb, .int .i64 (s.2.sy : Int)] 97)).heap[w4.heap.size]? = some (.cells #[.int .i64 (s.1 : Int), .string nb, .string sb, .int .i64 (s.2.sy : Int)] 97 (0, 0)) := heap_alloc_new _ _
        change Code.wp _ _ _ _ (w4.alloc (.cells #[.int .i64 (s.1 : Int), .string nb, .string sb, .int .i64 (s.2.sy : Int)] 97))
        generalize w4.alloc (.cells #[.int .i64 (s.1 : Int), .string nb, .string sb, .int .i64 (s.2.sy : Int)] 97) = W5 at *
        obtain ⟨g8, hg8⟩ : ∃ g8, g8 = w4.heap.size := ⟨_, rfl⟩
        have hgy : y.heap.size ≤ g8 := by omega
        rw [← hg8] at r8 ⊢
        have d2 := cell_of_row _ _ 2 _ _ _ r8
        rw [show (#[Value.int .i64 (s.1 : Int), .string nb, .string sb, .int .i64 (s.2.sy : Int)])[2]? = some (.string sb) from rfl] at d2
        have HA5 := Lib.hid (HW.out.below hb5)
        have H5 := Lib.hid (And.intro hb5 (And.intro r8 hgy))
        have hb5s := hb5.size
        clear hb5 r8 hg8 k0 k1 k2 k3
        clear HCK
        have HCK := Lib.hid (fun (z : World) (hz : Below W5.heap.size W5 z) => (show z.cell? ⟨l, 0, none⟩ = some (.pointer (some ⟨p, 0, none⟩)) ∧ (z.cell? ⟨g8, 1, none⟩ = some (.string nb) ∧ z.cell? ⟨y.heap.size, 0, none⟩ = some (.pointer (some ⟨l, 0, none⟩)) ∧ z.cell? ⟨b5, 0, none⟩ = some (.slice va vn vc)) ∧ ReadB z (.slice va vn vc) F from by
          obtain ⟨c1, c2, c3⟩ := (HA5.out.below hz).cells
          exact ⟨c1, ⟨cell_of_row _ _ 1 _ _ _ ((hz.block _ (Array.getElem?_eq_some_iff.1 H5.out.2.1).1).trans H5.out.2.1), c2.2⟩, c3⟩))
        have HAC := Lib.hid (fun (z : World) (hz : Below W5.heap.size W5 z) => (show Calls Tryz.prog 18 #[.pointer (some ⟨p, 0, none⟩), .string nb, .string fb] z (fun e w' => e = .returned (.int .i64 (R.2 : Int)) ∧ LoR l p bb L1 R.1 y w') from by
          have h2 := (HA5.out.below hz).lor.act (R := appD D nb.data.toList fb.data.toList) (f := 18) (args := #[.pointer (some ⟨p, 0, none⟩), .string nb, .string fb]) (fun n C L1 hd hlt => append_any nb fb (by rw [HS.out.2.1]; show s.2.nm.toArray.size ≤ _; rw [List.size_toArray, HS.out.2.2.1]; decide) HFB.out.2.2 z hd hlt)
          rw [show nb.data.toList = s.2.nm from by rw [HS.out.2.1], HFB.out.2.1, ← HR1.out] at h2
          exact h2))
        go_upto_region 11 with fail
        clear d2
        refine (wpIn_wide (n := 1)).1 ?_
        refine RegK.wpIn_region_can (F := Fence.wide) (KeptW W5) [(0, 0), (1, 0), (2, 0), (3, 0), (4, 0), (5, 0), (6, 0), (7, 0), (8, 0), (9, 3), (10, 0)] (by kernel_rfl) (by kernel_rfl) (by kernel_rfl) (fun _ _ d _ _ h => by cases d <;> exact h) ⟨rfl, rfl, rfl, Nat.le_refl _, fun _ _ => rfl⟩ ?_
        dsimp only [RegK.pick, List.getElem?_cons_zero, List.getElem?_cons_succ]
        change RegK.Can _ _ _ _ _ _ _ _ W5.drew
        have hkd : KeptW W5 W5.drew := ⟨rfl, rfl, rfl, Nat.le_refl _, fun _ _ => rfl⟩
        generalize W5.drew = v8 at *
        refine RegK.can_reads ?_
        intro K hK
        go_simp
        refine ⟨.pointer (some ⟨l, 0, none⟩), fun q hy => ?_, hK _ ?_⟩
        · have c0 := (HCK.out _ (KeptW.bel hy)).2.1.2.1
          go_simp
        clear hK K
        iterate 2 (refine RegK.can_reads ?_; intro K hK; go_simp; (first | refine ⟨_, fun _ _ => rfl, hK _ ?_⟩ | refine hK _ ?_); clear hK K)
        refine RegK.can_reads ?_
        intro K hK
        go_simp
        refine ⟨.pointer (some ⟨p, 0, none⟩), fun q hy => ?_, hK _ ?_⟩
        · have c0 := (HCK.out _ (KeptW.bel hy)).1
          go_simp
        clear hK K
        iterate 2 (refine RegK.can_reads ?_; intro K hK; go_simp; (first | refine ⟨_, fun _ _ => rfl, hK _ ?_⟩ | refine hK _ ?_); clear hK K)
        refine RegK.can_reads ?_
        intro K hK
        go_simp
        refine ⟨.string nb, fun q hy => ?_, hK _ ?_⟩
        · have c0 := (HCK.out _ (KeptW.bel hy)).2.1.1
          go_simp
        clear hK K
        refine RegK.can_reads ?_
        intro K hK
        go_simp
        refine ⟨.slice va vn vc, fun q hy => ?_, hK _ ?_⟩
        · have c0 := (HCK.out _ (KeptW.bel hy)).2.1.2.2
          go_simp
        clear hK K
        refine RegK.can_reads ?_
        intro K hK
        go_simp
        refine ⟨.string fb, fun q hy => ?_, hK _ ?_⟩
        · have hcv := ((HCK.out q (KeptW.bel hy)).2.2.conv (P := Tryz.prog) (src := 42) (dst := 9) (e := 5) Tryz.underlying42 Tryz.underlying5 Tryz.underlying9); rw [← HFB.out.1] at hcv
          go_simp
        clear hK K
        refine RegK.can_frees (fun _ => trivial) ?_
        intro K K0 hK hK0
        go_simp
        refine ⟨trivial, ?_⟩
        refine (callsIn_wide.2 (HAC.out v8 (KeptW.bel hkd))).mono ?_
        rintro e w9 ⟨rfl, hz9⟩
        refine hK (fun _ => True) _ _ trivial ?_
        clear hK K hK0 K0
        refine RegK.can_reads ?_; intro K hK; go_simp; (first | refine ⟨_, fun _ _ => rfl, hK _ ?_⟩ | refine hK _ ?_); clear hK K
        refine RegK.can_nil ?_
        have HZ := Lib.hid (HBK.out _ _ hz9)
        clear hz9
        go_wp2
        go_ret
        exact ⟨rfl, HZ.out⟩
      · rw [if_neg hlt] at hR
        have hl1 : ¬ (sb.size < 1024) := by omega
        have HR1 := Lib.hid hR
        clear hR hlt hsz
        go_upto_region 10 with fail
        have hb5 := (Below.refl w4.heap.size w4).alloc (Nat.le_refl _) (.cells #[.int .i64 (s.1 : Int), .string nb, .string sb, .int .i64 (s.2.sy : Int)] 97)
        have r8 : (w4.alloc (.cells #[.int .i64 (s.1 : Int), .string nb, .string sb, .int .i64 (s.2.sy : Int)] 97)).heap[w4.heap.size]? = some (.cells #[.int .i64 (s.1 : Int), .string nb, .string sb, .int .i64 (s.2.sy : Int)] 97 (0, 0)) := heap_alloc_new _ _
        change Code.wp _ _ _ _ (w4.alloc (.cells #[.int .i64 (s.1 : Int), .string nb, .string sb, .int .i64 (s.2.sy : Int)] 97))
        generalize w4.alloc (.cells #[.int .i64 (s.1 : Int), .string nb, .string sb, .int .i64 (s.2.sy : Int)] 97) = W5 at *
        obtain ⟨g8, hg8⟩ : ∃ g8, g8 = w4.heap.size := ⟨_, rfl⟩
        have hgy : y.heap.size ≤ g8 := by omega
        rw [← hg8] at r8 ⊢
        have d2 := cell_of_row _ _ 2 _ _ _ r8
        rw [show (#[Value.int .i64 (s.1 : Int), .string nb, .string sb, .int .i64 (s.2.sy : Int)])[2]? = some (.string sb) from rfl] at d2
        have HA5 := Lib.hid (HW.out.below hb5)
        have H5 := Lib.hid (And.intro hb5 (And.intro r8 hgy))
        have hb5s := hb5.size
        clear hb5 r8 hg8 k0 k1 k2 k3
        have hbb : R = if (lsyncD D).2 ≠ 0 then lsyncD D else appD (lsyncD D).1 (sname (s.1 + 1)) F := by
          rw [HR1.out]
          by_cases hq : (lsyncD D).2 ≠ 0
          · rw [if_pos hq, if_pos hq]
          · rw [if_neg hq, if_neg hq, if_neg (by have := HS.out.1; omega)]
        have HST := Lib.hid (show Calls Tryz.prog 53 #[.slice (some ⟨W5.heap.size, 0, none⟩) 2 2] (W5.alloc (.cells #[.func (.func 28) #[.pointer (some ⟨l, 0, none⟩)] #[], .func (.func 57) #[] #[.pointer (some ⟨g8, 0, none⟩), .pointer (some ⟨y.heap.size, 0, none⟩), .pointer (some ⟨b5, 0, none⟩)]] 47)) (fun e y' => e = .returned (.int .i64 (R.2 : Int)) ∧ LoR l p bb L1 R.1 (W5.alloc (.cells #[.func (.func 28) #[.pointer (some ⟨l, 0, none⟩)] #[], .func (.func 57) #[] #[.pointer (some ⟨g8, 0, none⟩), .pointer (some ⟨y.heap.size, 0, none⟩), .pointer (some ⟨b5, 0, none⟩)]] 47)) y') from by
          have hcs := two_cells W5 (.func (.func 28) #[.pointer (some ⟨l, 0, none⟩)] #[]) (.func (.func 57) #[] #[.pointer (some ⟨g8, 0, none⟩), .pointer (some ⟨y.heap.size, 0, none⟩), .pointer (some ⟨b5, 0, none⟩)]) 47
          have hb7 := (Below.refl W5.heap.size W5).alloc (Nat.le_refl _) (.cells #[.func (.func 28) #[.pointer (some ⟨l, 0, none⟩)] #[], .func (.func 57) #[] #[.pointer (some ⟨g8, 0, none⟩), .pointer (some ⟨y.heap.size, 0, none⟩), .pointer (some ⟨b5, 0, none⟩)]] 47)
          have hz7 : W5.heap.size < ((W5.alloc (.cells #[.func (.func 28) #[.pointer (some ⟨l, 0, none⟩)] #[], .func (.func 57) #[] #[.pointer (some ⟨g8, 0, none⟩), .pointer (some ⟨y.heap.size, 0, none⟩), .pointer (some ⟨b5, 0, none⟩)]] 47))).heap.size := by simp
          generalize (W5.alloc (.cells #[.func (.func 28) #[.pointer (some ⟨l, 0, none⟩)] #[], .func (.func 57) #[] #[.pointer (some ⟨g8, 0, none⟩), .pointer (some ⟨y.heap.size, 0, none⟩), .pointer (some ⟨b5, 0, none⟩)]] 47)) = W7 at *
          have hW7 : AddW l p bb L1 D y.heap.size F (.slice va vn vc) y.heap.size b5 W7 W7 := by
            have h1 := HA5.out.below hb7
            exact ⟨HL4.out W7 (H5.out.1.trans (hb7.mono H5.out.1.size)), h1.r2, h1.r5, h1.own, ⟨h1.far.1, h1.far.2.1, h1.far.2.2.1, by omega⟩⟩
          have r8 := (hb7.block g8 (Array.getElem?_eq_some_iff.1 H5.out.2.1).1).trans H5.out.2.1
          have hgy := H5.out.2.2
          have hfar := hW7.far.1
          refine (steps_any W5.heap.size 2 2 [(28, #[.pointer (some ⟨l, 0, none⟩)], #[]), (57, #[], #[.pointer (some ⟨g8, 0, none⟩), .pointer (some ⟨y.heap.size, 0, none⟩), .pointer (some ⟨b5, 0, none⟩)])] rfl (by decide)
            (fun i y => match i with | 0 => LoR l p bb L1 D W7 y | 1 => (lsyncD D).2 = 0 ∧ LoR l p bb L1 (lsyncD D).1 W7 y | _ => R.2 = 0 ∧ LoR l p bb L1 R.1 W7 y) (fun k y => k = (R.2 : Int) ∧ LoR l p bb L1 R.1 W7 y) W7 hW7.lor ?_ ?_ ?_).mono ?_
          · intro f hf xs y
            rcases List.mem_cons.1 hf with rfl | hf
            · exact enters_of Tryz.func28 (by kernel_rfl) rfl xs y
            · rw [List.mem_singleton.1 hf]
              exact enters_of Tryz.func57 (by kernel_rfl) rfl xs y
          · intro i f y' hf hI
            have tt : Turns L1 W7 y' := by
              match i, hI with
              | 0, hI => exact hI.t
              | 1, hI => exact hI.2.t
              | n + 2, hI => exact hI.2.t
            have cc : ∀ j, y'.cell? ⟨W5.heap.size, j, none⟩ = W7.cell? ⟨W5.heap.size, j, none⟩ := fun j => World.cell?_of_block (tt.block _ hz7 (fun q => by have h1 : W5.heap.size < y.heap.size := hfar _ q; omega))
            match i, hf with
            | 0, hf => cases hf; exact (cc 0).trans hcs.1
            | 1, hf => cases hf; exact (cc 1).trans hcs.2
            | n + 2, hf => simp at hf
          · intro i f y' hf hI
            match i, hf, hI with
            | 0, hf, hI =>
              cases hf
              have hI : LoR l p bb L1 D W7 y' := hI
              refine (lsync_any hI (by have := H.out.2.2.1; omega)).mono ?_
              rintro e y2 ⟨rfl, hq⟩
              by_cases h0 : (lsyncD D).2 = 0
              · exact ⟨_, rfl, .inl ⟨by rw [h0]; rfl, h0, hq⟩⟩
              · refine ⟨_, rfl, .inr ⟨by omega, ?_⟩⟩
                rw [hbb, if_pos h0]
                exact ⟨rfl, hq⟩
            | 1, hf, hI =>
              cases hf
              obtain ⟨h0, hI⟩ : (lsyncD D).2 = 0 ∧ LoR l p bb L1 (lsyncD D).1 W7 y' := hI
              have hA := hW7.on rfl hI
              have r8' := (hI.t.block g8 (Array.getElem?_eq_some_iff.1 r8).1 (fun q => by have := hfar _ q; omega)).trans r8
              refine (ladd1_any hI g8 y.heap.size b5 s.1 (.slice va vn vc) F HS.out.1 HRR.out.2 (fun z hz => ?_)).mono ?_
              · obtain ⟨c1, c2, c3⟩ := (hA.below hz).cells
                exact ⟨cell_of_row _ _ 0 _ _ _ ((hz.block _ (Array.getElem?_eq_some_iff.1 r8').1).trans r8'), c2.2.1, c2.2.2, c3⟩
              · rintro e y2 ⟨rfl, hq⟩
                have hRe : R = appD (lsyncD D).1 (sname (s.1 + 1)) F := by rw [hbb, if_neg (fun q => q h0)]
                rw [← hRe] at hq ⊢
                by_cases hr0 : R.2 = 0
                · exact ⟨_, rfl, .inl ⟨by rw [hr0]; rfl, hr0, hq⟩⟩
                · exact ⟨_, rfl, .inr ⟨by omega, rfl, hq⟩⟩
            | n + 2, hf, _ => simp at hf
          · rintro e y2 ⟨k, rfl, ⟨rfl, hI⟩ | ⟨_, rfl, hI⟩⟩
            · have hI : R.2 = 0 ∧ LoR l p bb L1 R.1 W7 y2 := hI
              exact ⟨by rw [hI.1]; rfl, hI.2⟩
            · exact ⟨rfl, hI⟩)
        have q2 := cell_of_row _ _ 0 _ _ _ HA5.out.r2
        rw [show (#[Value.pointer (some ⟨l, 0, none⟩)] : Array Value)[0]? = some (.pointer (some ⟨l, 0, none⟩)) from rfl] at q2
        clear hbb
        go_wp2_with (go_at_call 53; (with_reducible refine HST.out.mono ?_); rintro e w9 ⟨rfl, hz⟩; have HZ := Lib.hid hz; clear hz)
        go_ret
        have hb7 := (Below.refl W5.heap.size W5).alloc (Nat.le_refl _) (.cells #[.func (.func 28) #[.pointer (some ⟨l, 0, none⟩)] #[], .func (.func 57) #[] #[.pointer (some ⟨g8, 0, none⟩), .pointer (some ⟨y.heap.size, 0, none⟩), .pointer (some ⟨b5, 0, none⟩)]] 47)
        have hbA := HBL.out.trans (H5.out.1.mono HBL.out.size)
        exact ⟨rfl, HBK.out _ _ (HZ.out.base (hbA.trans (hb7.mono hbA.size)) H.out.1.far)⟩
  · rw [if_pos hf] at hR
    have HRR := Lib.hid hR
    have HP := Lib.hid (show ∀ z : World, Calls Tryz.prog 37 #[.slice none 0 0, .string x] z (fun e w' => ∃ a n c, e = .returned (.tuple #[.slice a n c, .int .i64 6]) ∧ Below z.heap.size z w') from fun z => (Hp.out z).mono (by
      rintro e w' ⟨v', rfl, ho, hb⟩
      obtain ⟨a, n, c, rfl⟩ := ho.read.slice
      refine ⟨a, n, c, ?_, hb⟩
      unfold putF3
      rw [if_neg hf]
      rfl))
    clear hf hR
    go_enter Tryz.func27, Tryz.ntmps27
    go_wp2_with (go_at_call 37; (with_reducible refine (HP.out _).mono ?_); rintro e w2 ⟨va, vn, vc, rfl, hb⟩; have HB2 := Lib.hid hb; clear hb)
    go_ret
    rw [HRR.out]
    have hb1 := (Below.refl y.heap.size y).alloc (Nat.le_refl _) (.cells #[.pointer (some ⟨l, 0, none⟩)] 51)
    have hb2 := hb1.trans (HB2.out.mono hb1.size)
    exact ⟨rfl, HBK.out _ _ (H.out.1.below (hb2.alloc hb2.size _))⟩
end Go.Proofs.YtogfladmgbldcaaGreatDoor
namespace Go.Proofs.YtogfladmgbldcaaGreatDoor
open Go.RowKit Go.Shelf
/-- A row of texts that can be read. -/
def StrS (w : World) (v : Value) (l : List Bs) : Prop := ∃ a c, v = .slice a l.length c ∧ ∀ i x, l[i]? = some x → ∃ b o, a = some ⟨b, o, none⟩ ∧ b < w.heap.size ∧ w.cell? ⟨b, o + i, none⟩ = some (.string ⟨x.toArray⟩)
theorem StrS.below {w w' : World} {v : Value} {l : List Bs} (h : StrS w v l) (hb : Below w.heap.size w w') : StrS w' v l := by
  obtain ⟨a, c, rfl, h⟩ := h
  refine ⟨a, c, rfl, fun i x hx => ?_⟩
  obtain ⟨b, o, rfl, hlt, hc⟩ := h i x hx
  exact ⟨b, o, rfl, Nat.lt_of_lt_of_le hlt hb.size, (World.cell?_of_block (hb.block b hlt)).trans hc⟩
theorem put_len {f : FilV} : ∀ (l : List FilV), (putF f l).length ≤ l.length + 1
  | [] => Nat.le_refl _
  | g :: r => by
    unfold putF
    split
    · simp
    · split
      · simp
      · have := put_len (f := f) r
        simp only [List.length_cons]
        omega
theorem sync_len (D : DskV) (nm : Bs) : (syncD D nm).1.fs.length ≤ D.fs.length + 1 := by
  unfold syncD withD
  split
  · exact Nat.le_succ _
  · split
    · exact put_len _
    · exact Nat.le_succ _
theorem lsync_len (D : DskV) : (lsyncD D).1.fs.length ≤ D.fs.length + 1 := by
  unfold lsyncD
  split
  · exact Nat.le_succ _
  · exact sync_len _ _
theorem app_len (D : DskV) (nm s : Bs) : (appD D nm s).1.fs.length ≤ D.fs.length + 1 := by
  unfold appD
  split
  · exact Nat.le_succ _
  · split
    · exact Nat.le_succ _
    · split
      · exact Nat.le_succ _
      · split
        · split
          · exact put_len _
          · exact put_len _
        · exact put_len _
set_option maxRecDepth 100000 in
set_option maxHeartbeats 4000000 in
theorem lren1_any {l p bb : Nat} {L : List Nat} {D : DskV} {w y : World} (h : LoR l p bb L D w y) (g8 b2 b5 n : Nat) (vb : Value) (F : Bs) (hn : 1 ≤ n ∧ n ≤ 209) (hF : F.length ≤ 10000000)
    (HC : ∀ z, Below y.heap.size y z → z.cell? ⟨g8, 0, none⟩ = some (.int .i64 (n : Int)) ∧ z.cell? ⟨b2, 0, none⟩ = some (.pointer (some ⟨l, 0, none⟩)) ∧ z.cell? ⟨b5, 0, none⟩ = some vb ∧ ReadB z vb F) :
    Calls Tryz.prog 58 #[.pointer (some ⟨g8, 0, none⟩), .pointer (some ⟨b2, 0, none⟩), .pointer (some ⟨b5, 0, none⟩)] y fun e y' => e = .returned (.int .i64 ((appD D (sname n) F).2 : Int)) ∧ LoR l p bb L (appD D (sname n) F).1 w y' := by
  have hc0 := (HC y (Below.refl _ _)).1
  obtain ⟨fb, hfb⟩ : ∃ fb : ByteArray, fb = ⟨F.toArray⟩ := ⟨_, rfl⟩
  have HFB := Lib.hid (And.intro hfb (show fb.data.toList = F from by rw [hfb]))
  obtain ⟨nb, hnb⟩ : ∃ nb : ByteArray, nb = ⟨(sname n).toArray⟩ := ⟨_, rfl⟩
  have hnl : (sname n).length = 9 := sname_len (by omega) (by omega)
  obtain ⟨R, hR⟩ : ∃ R, R = appD D (sname n) F := ⟨_, rfl⟩
  rw [← hR]
  have HCK := Lib.hid (fun (z : World) (hz : Below y.heap.size y z) => And.intro (h.below hz).cell (And.intro (HC z hz) (HC z hz).2.2.2))
  have HNM := Lib.hid (fun (z : World) (hz : Below y.heap.size y z) => (show Calls Tryz.prog 56 #[.int .i64 (n : Int)] z (fun e w' => e = .returned (.string nb) ∧ Below z.heap.size z w') from by
    rw [hnb]
    exact lname_any n (by omega) (sname_itoa (by omega) (by omega)) z (h.below hz).pv))
  have HAC := Lib.hid (fun (z : World) (hz : Below y.heap.size y z) => (show Calls Tryz.prog 18 #[.pointer (some ⟨p, 0, none⟩), .string nb, .string fb] z (fun e w' => e = .returned (.int .i64 (R.2 : Int)) ∧ LoR l p bb L R.1 w w') from by
    have h2 := (h.below hz).act (R := appD D nb.data.toList fb.data.toList) (f := 18) (args := #[.pointer (some ⟨p, 0, none⟩), .string nb, .string fb]) (fun n C L1 hd hlt => append_any nb fb (by rw [hnb]; show (sname _).toArray.size ≤ _; rw [List.size_toArray, hnl]; decide) (by rw [hfb]; show F.toArray.size ≤ _; rw [List.size_toArray]; unfold maxLen; omega) z hd hlt)
    rw [show nb.data.toList = sname n from by rw [hnb], HFB.out.2, ← hR] at h2
    exact h2))
  have hne : ¬ (99999999 < n) := by omega
  have hne2 : ¬ ((99999999 : Int) < (n : Int)) := by omega
  clear hF HC h hfb hnb hnl hR hn
  go_enter Tryz.func58, Tryz.ntmps58
  go_upto_region 3 with fail
  refine (wpIn_wide (n := 1)).1 ?_
  refine RegK.wpIn_region_can (F := Fence.wide) (KeptW y) [(0, 0), (1, 0), (2, 0), (3, 0), (4, 0), (6, 0), (7, 0), (5, 1), (8, 3), (9, 0)] (by kernel_rfl) (by kernel_rfl) (by kernel_rfl) (fun _ _ d _ _ h => by cases d <;> exact h) ⟨rfl, rfl, rfl, Nat.le_refl _, fun _ _ => rfl⟩ ?_
  dsimp only [RegK.pick, List.getElem?_cons_zero, List.getElem?_cons_succ]
  change RegK.Can _ _ _ _ _ _ _ _ y.drew
  have hkd : KeptW y y.drew := ⟨rfl, rfl, rfl, Nat.le_refl _, fun _ _ => rfl⟩
  generalize y.drew = v8 at *
  refine RegK.can_reads ?_
  intro K hK
  go_simp
  refine ⟨.pointer (some ⟨l, 0, none⟩), fun q hy => ?_, hK _ ?_⟩
  · have c0 := (HCK.out _ (KeptW.bel hy)).2.1.2.1
    go_simp
  clear hK K
  iterate 2 (refine RegK.can_reads ?_; intro K hK; go_simp; (first | refine ⟨_, fun _ _ => rfl, hK _ ?_⟩ | refine hK _ ?_); clear hK K)
  refine RegK.can_reads ?_
  intro K hK
  go_simp
  refine ⟨.pointer (some ⟨p, 0, none⟩), fun q hy => ?_, hK _ ?_⟩
  · have c0 := (HCK.out _ (KeptW.bel hy)).1
    go_simp
  clear hK K
  refine RegK.can_reads ?_
  intro K hK
  go_simp
  refine ⟨.int .i64 (n : Int), fun q hy => ?_, hK _ ?_⟩
  · have c0 := (HCK.out _ (KeptW.bel hy)).2.1.1
    go_simp
  clear hK K
  refine RegK.can_reads ?_
  intro K hK
  go_simp
  refine ⟨vb, fun q hy => ?_, hK _ ?_⟩
  · have c0 := (HCK.out _ (KeptW.bel hy)).2.1.2.2.1
    go_simp
  clear hK K
  refine RegK.can_reads ?_
  intro K hK
  go_simp
  refine ⟨.string fb, fun q hy => ?_, hK _ ?_⟩
  · have hcv := ((HCK.out q (KeptW.bel hy)).2.2.conv (P := Tryz.prog) (src := 42) (dst := 9) (e := 5) Tryz.underlying42 Tryz.underlying5 Tryz.underlying9); rw [← HFB.out.1] at hcv
    go_simp
  clear hK K
  refine RegK.can_turns (fun _ => trivial) ?_
  intro K K0 hK hK0
  go_simp
  refine ⟨trivial, ?_⟩
  refine (callsIn_wide.2 (HNM.out v8 (KeptW.bel hkd))).mono ?_
  rintro e v2 ⟨rfl, hb7⟩
  have v2k : KeptW y v2 := KeptW.mono hkd hb7
  refine hK _ _ v2k ?_
  clear hK K hK0 K0
  refine RegK.can_frees (fun _ => trivial) ?_
  intro K K0 hK hK0
  go_simp
  refine ⟨trivial, ?_⟩
  refine (callsIn_wide.2 (HAC.out v2 (KeptW.bel v2k))).mono ?_
  rintro e w9 ⟨rfl, hz9⟩
  refine hK (fun _ => True) _ _ trivial ?_
  clear hK K hK0 K0
  refine RegK.can_reads ?_; intro K hK; go_simp; (first | refine ⟨_, fun _ _ => rfl, hK _ ?_⟩ | refine hK _ ?_); clear hK K
  refine RegK.can_nil ?_
  have HZ := Lib.hid hz9
  clear hz9
  go_wp2
  go_ret
  exact ⟨rfl, HZ.out⟩
end Go.Proofs.YtogfladmgbldcaaGreatDoor
