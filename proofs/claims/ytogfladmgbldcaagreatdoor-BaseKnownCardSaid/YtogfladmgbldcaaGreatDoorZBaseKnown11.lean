/- Base: Base, Save. Condition: as each theorem says. -/
import Derived.BigQuiet
import Derived.Test.YtogfladmgbldcaaGreatDoorZBaseKnown10
import Derived.WalkKit
import Derived.Deep.Slices
import Derived.Deep.Fields
import Derived.ChangeSame
import Derived.Below
import Derived.ChangeArms
namespace Go.Proofs.YtogfladmgbldcaaGreatDoor
open Go.RowKit Go.Shelf
theorem open_any {p b n : Nat} {C : Bs → Nat} {L : List Nat} {D : DskV} (hlen : D.fs.length ≤ 1000000) (hnl : ∀ f ∈ D.fs, f.nm.length ≤ maxLen) (w : World) (hv : PV w) (h : DskAt w p b n C L D) (hL : ∀ g ∈ L, g < w.heap.size) (hdd : D.dead = false) :
    Calls Tryz.prog 12 #[.pointer (some ⟨p, 0, none⟩)] w (OpenR p b L D w) := callsIn_wide.1 (open_in hlen hnl w hv h hL hdd)
set_option maxRecDepth 100000 in
set_option maxHeartbeats 4000000 in
theorem base_any (S p : Nat) (b : Nat × Bs) (w : World) (h : StoAt w S p b) :
    Calls Tryz.prog 13 #[.pointer (some ⟨S, 0, none⟩)] w fun e w' => e = .returned (.tuple #[.int .u64 (b.1 : Int), .string ⟨(if b.1 = 0 then [] else b.2).toArray⟩, .bool (decide (b.1 ≠ 0))]) ∧ Below w.heap.size w w' := by
  have c1 : w.cell? ⟨S, 1, none⟩ = some (.int .u64 (b.1 : Int)) := cell_of_row _ _ 1 _ _ _ h
  have c2 : w.cell? ⟨S, 2, none⟩ = some (.string ⟨b.2.toArray⟩) := cell_of_row _ _ 2 _ _ _ h
  clear h
  by_cases h0 : b.1 = 0
  · rw [if_pos h0, decide_eq_false (by omega)]
    have hz : ((b.1 : Int) == 0) = true := by rw [h0]; rfl
    have HZ := Lib.hid h0
    clear h0
    go_enter Tryz.func13, Tryz.ntmps13
    go_wp2
    go_ret3
    rw [HZ.out]
    exact ⟨rfl, Below.refl _ _⟩
  · rw [if_neg h0, decide_eq_true h0]
    have hz : ((b.1 : Int) == 0) = false := by rw [beq_eq_false_iff_ne]; omega
    clear h0
    go_enter Tryz.func13, Tryz.ntmps13
    go_upto_region 3 with fail
    go_quiet (fail)
    have hb := below_drewN (Below.refl w.heap.size w) nq
    have HB := Lib.hid hb
    generalize w.drewN nq = v1 at *
    clear hb
    go_wp2
    go_ret3
    exact ⟨rfl, HB.out⟩
/-- What Save tells. -/
def insB (slot : Nat) (text : Bs) : Bs := numL slot ++ (numL text.length ++ text)
def saveB (D : DskV) (b : Nat × Bs) (slot : Nat) (text : Bs) : DskV × (Nat × Bs) × Nat :=
  if slot ≤ b.1 then (D, b, 2) else if ¬ frOk (insB slot text) then (D, b, 6)
  else if (appD D (bname slot) (frL (insB slot text))).2 ≠ 0 then ((appD D (bname slot) (frL (insB slot text))).1, b, (appD D (bname slot) (frL (insB slot text))).2)
  else if (syncD (appD D (bname slot) (frL (insB slot text))).1 (bname slot)).2 ≠ 0 then ((syncD (appD D (bname slot) (frL (insB slot text))).1 (bname slot)).1, b, (syncD (appD D (bname slot) (frL (insB slot text))).1 (bname slot)).2)
  else if b.1 = 0 then ((syncD (appD D (bname slot) (frL (insB slot text))).1 (bname slot)).1, (slot, text), 0)
  else ((remD (syncD (appD D (bname slot) (frL (insB slot text))).1 (bname slot)).1 (bname b.1)).1, (slot, text), (remD (syncD (appD D (bname slot) (frL (insB slot text))).1 (bname slot)).1 (bname b.1)).2)
/-- A store and its disk. -/
structure BaAt (w : World) (S p bb : Nat) (L : List Nat) (D : DskV) (b : Nat × Bs) : Prop where
  sto : StoAt w S p b
  dsk : ∃ n C, DskAt w p bb n C L D
  lt : ∀ g ∈ L, g < w.heap.size
  off : S ∉ L
/-- What has come of a store and its disk since w. -/
def BaR (S p bb : Nat) (L : List Nat) (D : DskV) (b : Nat × Bs) (w y : World) : Prop := ∃ L1, BaAt y S p bb L1 D b ∧ Turns (S :: L) w y ∧ ∀ g ∈ L1, g ∈ L ∨ w.heap.size ≤ g
/-- What Save leaves. -/
def SaveR (S p bb : Nat) (L : List Nat) (R : DskV × (Nat × Bs) × Nat) (w : World) (e : Ending) (w' : World) : Prop := e = .returned (.int .i64 (R.2.2 : Int)) ∧ BaR S p bb L R.1 R.2.1 w w'
theorem BaAt.below {w w' : World} {S p bb : Nat} {L : List Nat} {D : DskV} {b : Nat × Bs} (h : BaAt w S p bb L D b) (hb : Below w.heap.size w w') : BaAt w' S p bb L D b := by
  obtain ⟨n, C, hd⟩ := h.dsk
  exact ⟨(hb.block S (Array.getElem?_eq_some_iff.1 h.sto).1).trans h.sto, ⟨n, C, hd.below hb⟩, fun g hg => Nat.lt_of_lt_of_le (h.lt g hg) hb.size, h.off⟩
theorem BaR.refl {w : World} {S p bb : Nat} {L : List Nat} {D : DskV} {b : Nat × Bs} (h : BaAt w S p bb L D b) : BaR S p bb L D b w w := ⟨L, h, Turns.refl _ _, fun _ hg => .inl hg⟩
theorem BaR.below {w y y' : World} {S p bb : Nat} {L : List Nat} {D : DskV} {b : Nat × Bs} (h : BaR S p bb L D b w y) (hb : Below y.heap.size y y') : BaR S p bb L D b w y' := by
  obtain ⟨L1, h1, h2, h3⟩ := h
  exact ⟨L1, h1.below hb, h2.trans (Turns.of hb), h3⟩
theorem BaR.act {w y y' : World} {S p bb : Nat} {L L1 : List Nat} {D : DskV} {b : Nat × Bs} {R : DskV × Nat} {k : Int} (h : BaAt y S p bb L1 D b) (ht : Turns (S :: L) w y) (hl : ∀ g ∈ L1, g ∈ L ∨ w.heap.size ≤ g) (hr : DkR p bb L1 R y k y') : BaR S p bb L R.1 b w y' := by
  obtain ⟨_, n, C, L', hd, ht', hl'⟩ := hr
  obtain ⟨L2, hd2, hl2⟩ := hd.trim
  have hS := (Array.getElem?_eq_some_iff.1 h.sto).1
  refine ⟨L2, ⟨(ht'.block S hS h.off).trans h.sto, ⟨n, C, hd2⟩, fun g hg => (hl2 g hg).2, fun hg => ?_⟩, ⟨ht'.os.trans ht.os, ht'.tape.trans ht.tape, ht'.out.trans ht.out, Nat.le_trans ht.size ht'.size, fun g hg hn => (ht'.block g (Nat.lt_of_lt_of_le hg ht.size) (fun hg2 => ?_)).trans (ht.block g hg hn)⟩, fun g hg => ?_⟩
  · rcases hl' S (hl2 S hg).1 with h1 | h1
    · exact h.off h1
    · omega
  · rcases hl g hg2 with h2 | h2
    · exact hn (List.mem_cons_of_mem _ h2)
    · omega
  · rcases hl' g (hl2 g hg).1 with h1 | h1
    · exact hl g h1
    · exact .inr (Nat.le_trans ht.size h1)
theorem BaR.set {w y y' : World} {S p bb : Nat} {L : List Nat} {D : DskV} {b b' : Nat × Bs} (h : BaR S p bb L D b w y) (hb : ButOne S y y') (hs : StoAt y' S p b') : BaR S p bb L D b' w y' := by
  obtain ⟨L1, h1, ht, hl⟩ := h
  obtain ⟨n, C, hd⟩ := h1.dsk
  refine ⟨L1, ⟨hs, ⟨n, C, hd.keep (fun g hg => hb.block g (h1.lt g hg) (fun e => h1.off (e ▸ hg)))⟩, fun g hg => Nat.lt_of_lt_of_le (h1.lt g hg) hb.size, h1.off⟩, ⟨hb.os.trans ht.os, hb.tape.trans ht.tape, hb.output.trans ht.out, Nat.le_trans ht.size hb.size, fun g hg hn => (hb.block g (Nat.lt_of_lt_of_le hg ht.size) (fun e => hn (by rw [e]; exact List.mem_cons_self ..))).trans (ht.block g hg hn)⟩, hl⟩
theorem BaR.far {w y : World} {S p bb B0 : Nat} {L : List Nat} {D : DskV} {b : Nat × Bs} (h : BaR S p bb L D b w y) (hB : B0 ≤ w.heap.size) (hS : B0 ≤ S) (hL : ∀ g ∈ L, B0 ≤ g) : Below B0 w y := by
  obtain ⟨_, _, ht, _⟩ := h
  exact ht.below (Below.refl _ _) hB (fun g hg => by
    rcases List.mem_cons.1 hg with h1 | h1
    · rw [h1]; exact hS
    · exact hL g h1)
theorem bname_size (u : Nat) : (⟨(bname u).toArray⟩ : ByteArray).size = 17 := by
  show (bname u).toArray.size = 17
  rw [List.size_toArray]
  unfold bname
  rw [List.length_cons, hexW_len]
set_option maxRecDepth 100000 in
set_option maxHeartbeats 16000000 in
theorem save_any (B0 S p bb slot : Nat) (L : List Nat) (D : DskV) (b : Nat × Bs) (x : ByteArray) (hs64 : slot < 18446744073709551616) (hb64 : b.1 < 18446744073709551616) (hx : x.size ≤ 1000000) (w : World) (hv : PVB B0 w) (hB0 : B0 ≤ w.heap.size) (hBS : B0 ≤ S) (hBL : ∀ g ∈ L, B0 ≤ g) (h : BaAt w S p bb L D b) :
    Calls Tryz.prog 14 #[.pointer (some ⟨S, 0, none⟩), .int .u64 (slot : Int), .string x] w (SaveR S p bb L (saveB D b slot x.data.toList) w) := by
  have hxl := str_len x
  obtain ⟨T, hT⟩ : ∃ T, T = saveB D b slot x.data.toList := ⟨_, rfl⟩
  rw [← hT]
  have c1 : w.cell? ⟨S, 1, none⟩ = some (.int .u64 (b.1 : Int)) := cell_of_row _ _ 1 _ _ _ h.sto
  unfold saveB at hT
  have H := Lib.hid h
  by_cases h1 : slot ≤ b.1
  · rw [if_pos h1] at hT
    have hd1 : ((slot : Int) ≤ (b.1 : Int)) := by omega
    have HT := Lib.hid hT
    clear h hT h1 hxl hs64 hb64
    go_enter Tryz.func14, Tryz.ntmps14
    go_wp2
    go_ret
    rw [HT.out]
    exact ⟨rfl, BaR.refl H.out⟩
  · rw [if_neg h1] at hT
    have hd1 : ¬ ((slot : Int) ≤ (b.1 : Int)) := by omega
    obtain ⟨I, hI⟩ : ∃ I, I = insB slot x.data.toList := ⟨_, rfl⟩
    rw [← hI] at hT
    have hI2 : numL slot ++ strL x = I := by rw [hI]; unfold insB strL; rw [hxl]
    have hIl : I.length ≤ 1000018 := by
      have q1 := (numL_len slot).1
      have q2 := strL_len x
      rw [← hI2, List.length_append]
      omega
    have Hn := Lib.hid (num_any (.slice none 0 0) [] slot hs64 (by simp) w (ReadB.nil w))
    have Hs := Lib.hid (fun (v : Value) (y : World) (hy : ReadB y v (numL slot)) => by have h2 := str_any v (numL slot) x (by have := (numL_len slot).1; omega) y hy; rw [hI2] at h2; exact h2)
    obtain ⟨z, hz⟩ : ∃ z : ByteArray, z = ⟨I.toArray⟩ := ⟨_, rfl⟩
    have hzs : z.size = I.length := by rw [hz]; simp [ByteArray.size]
    obtain ⟨F, hF⟩ : ∃ F, F = putF3 [] I := ⟨_, rfl⟩
    have Hp := Lib.hid (fun (y : World) => by have h2 := fput_any (.slice none 0 0) [] z (by simp) (by unfold maxLen; omega) y (ReadB.nil y); rw [show z.data.toList = I by rw [hz], ← hF] at h2; exact h2)
    have HZ := Lib.hid hz
    clear hI hI2 hxl hz hzs h1 h
    unfold putF3 at hF
    have Hfin := Lib.hid hF
    by_cases hf : frOk I
    · rw [if_neg (fun h => h hf)] at hT
      rw [if_pos hf] at hF
      have HT := Lib.hid hT
      have HF := Lib.hid hF
      have hF2 : ((F.2 : Nat) : Int) = 0 := by rw [hF]; rfl
      rw [hF2] at Hp
      clear hT hF hF2 hf Hfin
      go_enter Tryz.func14, Tryz.ntmps14
      go_wp2_with (first
        | ((with_reducible refine Hn.out.mono ?_); rintro e w1 ⟨v1, rfl, ho1, hb1⟩; have Ho1 := Lib.hid (And.intro ho1 hb1); clear ho1 hb1)
        | ((with_reducible refine (Hs.out _ _ Ho1.out.1.read).mono ?_); rintro e w2 ⟨v2, rfl, ho2, hb2⟩
           have hcv := OwnB.read ho2 |>.conv (P := Tryz.prog) (src := 42) (dst := 9) (e := 5) Tryz.underlying42 Tryz.underlying5 Tryz.underlying9
           rw [← HZ.out] at hcv
           have Ho2 := Lib.hid (Ho1.out.2.trans (hb2.mono Ho1.out.2.size)); clear ho2 hb2)
        | ((with_reducible refine (Hp.out _).mono ?_); rintro e w5 ⟨v3, rfl, ho3, hb3⟩; have Ho3 := Lib.hid (And.intro ho3 (Ho2.out.trans (hb3.mono Ho2.out.size))); clear ho3 hb3))
      have HRB := Lib.hid (show ReadB w5 v3 (frL I) from by have h2 := Ho3.out.1.read; rw [HF.out] at h2; simpa using h2)
      obtain ⟨fb, hfb⟩ : ∃ fb : ByteArray, fb = ⟨(frL I).toArray⟩ := ⟨_, rfl⟩
      have hfbl : fb.data.toList = frL I := by rw [hfb]
      have hfbs : fb.size ≤ maxLen := by
        rw [hfb]
        show (frL I).toArray.size ≤ _
        rw [List.size_toArray, frL_len]
        have := (numL_len I.length).1
        unfold maxLen
        omega
      have hnb : (⟨(bname slot).toArray⟩ : ByteArray).size ≤ maxLen := by rw [bname_size]; unfold maxLen; omega
      have HFB := Lib.hid (And.intro hfb (And.intro hfbl (And.intro hfbs hnb)))
      clear hfb hfbl hfbs hnb hcv
      have HBR := Lib.hid ((BaR.refl H.out).below Ho3.out.2)
      have HPV := Lib.hid (fun (y : World) (hy : Below w5.heap.size w5 y) => hv y (((HBR.out.below hy)).far hB0 hBS hBL))
      have HSP := Lib.hid (fun (y : World) (hy : Below w5.heap.size w5 y) => (show y.cell? ⟨S, 0, none⟩ = some (.pointer (some ⟨p, 0, none⟩)) from by
        obtain ⟨L1, hA, _, _⟩ := HBR.out.below hy
        exact cell_of_row _ _ 0 _ _ _ hA.sto))
      refine (wpIn_wide (n := 1)).1 ?_
      refine RegK.wpIn_region_can (F := Fence.wide) (KeptW w5) [(0, 0), (1, 0), (2, 0), (3, 0), (4, 0), (6, 0), (7, 0), (5, 1), (8, 3), (9, 0)] (by kernel_rfl) (by kernel_rfl) (by kernel_rfl) (fun _ _ d _ _ h => by cases d <;> exact h) ⟨rfl, rfl, rfl, Nat.le_refl _, fun _ _ => rfl⟩ ?_
      dsimp only [RegK.pick, List.getElem?_cons_zero, List.getElem?_cons_succ]
      change RegK.Can _ _ _ _ _ _ _ _ w5.drew
      have hkd : KeptW w5 w5.drew := ⟨rfl, rfl, rfl, Nat.le_refl _, fun _ _ => rfl⟩
      generalize w5.drew = v8 at *
      iterate 3 (refine RegK.can_reads ?_; intro K hK; go_simp; (first | refine ⟨_, fun _ _ => rfl, hK _ ?_⟩ | refine hK _ ?_); clear hK K)
      refine RegK.can_reads ?_
      intro K hK
      go_simp
      refine ⟨.pointer (some ⟨p, 0, none⟩), fun y hy => ?_, hK _ ?_⟩
      · have c0 := HSP.out y (KeptW.bel hy)
        go_simp
      clear hK K
      iterate 2 (refine RegK.can_reads ?_; intro K hK; go_simp; (first | refine ⟨_, fun _ _ => rfl, hK _ ?_⟩ | refine hK _ ?_); clear hK K)
      refine RegK.can_reads ?_
      intro K hK
      go_simp
      refine ⟨.string fb, fun y hy => ?_, hK _ ?_⟩
      · have hcv := ((HRB.out.below (KeptW.bel hy)).conv (P := Tryz.prog) (src := 42) (dst := 9) (e := 5) Tryz.underlying42 Tryz.underlying5 Tryz.underlying9); rw [← HFB.out.1] at hcv
        go_simp
      clear hK K
      refine RegK.can_turns (fun _ => trivial) ?_
      intro K K0 hK hK0
      go_simp
      refine ⟨trivial, ?_⟩
      refine (callsIn_wide.2 (name_any slot hs64 v8 (HPV.out v8 (KeptW.bel hkd)))).mono ?_
      rintro e v2 ⟨rfl, hb7⟩
      have v2k : KeptW w5 v2 := KeptW.mono hkd hb7
      refine hK _ _ v2k ?_
      clear hK K hK0 K0
      obtain ⟨L1, hA, ht, hl⟩ := HBR.out.below (KeptW.bel v2k)
      obtain ⟨n1, C1, hd⟩ := hA.dsk
      refine RegK.can_frees (fun _ => trivial) ?_
      intro K K0 hK hK0
      go_simp
      refine ⟨trivial, ?_⟩
      refine (callsIn_wide.2 (append_any ⟨(bname slot).toArray⟩ fb HFB.out.2.2.2 HFB.out.2.2.1 _ hd hA.lt)).mono ?_
      rintro e w9 ⟨k, rfl, hr⟩
      have hbr : BaR S p bb L (appD D (bname slot) fb.data.toList).1 b w w9 := BaR.act hA ht hl hr
      have HK := Lib.hid hr.1
      clear hr
      refine hK (fun _ => True) _ _ trivial ?_
      clear hK K hK0 K0 hA ht hl hd v2k hb7 hkd
      refine RegK.can_reads ?_; intro K hK; go_simp; (first | refine ⟨_, fun _ _ => rfl, hK _ ?_⟩ | refine hK _ ?_); clear hK K
      refine RegK.can_nil ?_
      have hk := HK.out
      clear HK
      rw [show ((⟨(bname slot).toArray⟩ : ByteArray).data.toList) = bname slot from rfl] at hk
      rw [HFB.out.2.1] at hk hbr
      obtain ⟨e1, he1⟩ : ∃ e1, e1 = (appD D (bname slot) (frL I)).2 := ⟨_, rfl⟩
      rw [← he1] at hk
      subst hk
      clear HBR HPV HSP HRB
      by_cases hk0 : e1 ≠ 0
      · have hkz : ((e1 : Int) != 0) = true := by rw [bne_iff_ne]; omega
        have HT2 := Lib.hid (show T = ((appD D (bname slot) (frL I)).1, b, e1) from by rw [HT.out, if_pos (by rw [← he1]; exact hk0), ← he1])
        have HBR := Lib.hid hbr
        clear hbr hk0 he1
        go_wp2
        go_ret
        rw [HT2.out]
        exact ⟨rfl, HBR.out⟩
      · have he0 : e1 = 0 := by omega
        subst he0
        have HT2 := Lib.hid (HT.out.trans (if_neg (by rw [← he1]; exact hk0)))
        clear hk0 he1
        have HBR := Lib.hid (hbr)
        have HPV := Lib.hid (fun (y : World) (hy : Below w9.heap.size w9 y) => hv y (((HBR.out.below hy)).far hB0 hBS hBL))
        have HSP := Lib.hid (fun (y : World) (hy : Below w9.heap.size w9 y) => (show y.cell? ⟨S, 0, none⟩ = some (.pointer (some ⟨p, 0, none⟩)) from by
          obtain ⟨L1, hA, _, _⟩ := HBR.out.below hy
          exact cell_of_row _ _ 0 _ _ _ hA.sto))
        clear hbr
        go_wp2
        refine (wpIn_wide (n := 1)).1 ?_
        refine RegK.wpIn_region_can (F := Fence.wide) (KeptW w9) [(0, 0), (1, 0), (2, 0), (3, 0), (4, 0), (5, 1), (6, 3), (7, 0)] (by kernel_rfl) (by kernel_rfl) (by kernel_rfl) (fun _ _ d _ _ h => by cases d <;> exact h) ⟨rfl, rfl, rfl, Nat.le_refl _, fun _ _ => rfl⟩ ?_
        dsimp only [RegK.pick, List.getElem?_cons_zero, List.getElem?_cons_succ]
        change RegK.Can _ _ _ _ _ _ _ _ w9.drew
        have hkd : KeptW w9 w9.drew := ⟨rfl, rfl, rfl, Nat.le_refl _, fun _ _ => rfl⟩
        generalize w9.drew = v8 at *
        iterate 3 (refine RegK.can_reads ?_; intro K hK; go_simp; (first | refine ⟨_, fun _ _ => rfl, hK _ ?_⟩ | refine hK _ ?_); clear hK K)
        refine RegK.can_reads ?_
        intro K hK
        go_simp
        refine ⟨.pointer (some ⟨p, 0, none⟩), fun y hy => ?_, hK _ ?_⟩
        · have c0 := HSP.out y (KeptW.bel hy)
          go_simp
        clear hK K
        refine RegK.can_reads ?_; intro K hK; go_simp; (first | refine ⟨_, fun _ _ => rfl, hK _ ?_⟩ | refine hK _ ?_); clear hK K
        refine RegK.can_turns (fun _ => trivial) ?_
        intro K K0 hK hK0
        go_simp
        refine ⟨trivial, ?_⟩
        refine (callsIn_wide.2 (name_any slot hs64 v8 (HPV.out v8 (KeptW.bel hkd)))).mono ?_
        rintro e v2 ⟨rfl, hb7⟩
        have v2k : KeptW w9 v2 := KeptW.mono hkd hb7
        refine hK _ _ v2k ?_
        clear hK K hK0 K0
        obtain ⟨L1, hA, ht, hl⟩ := HBR.out.below (KeptW.bel v2k)
        obtain ⟨n1, C1, hd⟩ := hA.dsk
        refine RegK.can_frees (fun _ => trivial) ?_
        intro K K0 hK hK0
        go_simp
        refine ⟨trivial, ?_⟩
        refine (callsIn_wide.2 (sync_any ⟨(bname slot).toArray⟩ HFB.out.2.2.2 _ hd)).mono ?_
        rintro e w12 ⟨k, rfl, hr⟩
        have hbr : BaR S p bb L (syncD (appD D (bname slot) (frL I)).1 (bname slot)).1 b w w12 := BaR.act hA ht hl hr
        have HK := Lib.hid hr.1
        clear hr
        refine hK (fun _ => True) _ _ trivial ?_
        clear hK K hK0 K0 hA ht hl hd v2k hb7 hkd
        refine RegK.can_reads ?_; intro K hK; go_simp; (first | refine ⟨_, fun _ _ => rfl, hK _ ?_⟩ | refine hK _ ?_); clear hK K
        refine RegK.can_nil ?_
        have hk := HK.out
        clear HK
        rw [show ((⟨(bname slot).toArray⟩ : ByteArray).data.toList) = bname slot from rfl] at hk
        obtain ⟨e2, he2⟩ : ∃ e2, e2 = (syncD (appD D (bname slot) (frL I)).1 (bname slot)).2 := ⟨_, rfl⟩
        rw [← he2] at hk
        subst hk
        clear HBR HPV HSP
        by_cases hk0 : e2 ≠ 0
        · have hkz : ((e2 : Int) != 0) = true := by rw [bne_iff_ne]; omega
          have HT3 := Lib.hid (show T = ((syncD (appD D (bname slot) (frL I)).1 (bname slot)).1, b, e2) from by rw [HT2.out, if_pos (by rw [← he2]; exact hk0), ← he2])
          have HBR := Lib.hid hbr
          clear hbr hk0 he2
          go_wp2
          go_ret
          rw [HT3.out]
          exact ⟨rfl, HBR.out⟩
        · have he0 : e2 = 0 := by omega
          subst he0
          have HT3 := Lib.hid (HT2.out.trans (if_neg (by rw [← he2]; exact hk0)))
          have hso : StoAt w12 S p b := by obtain ⟨L1, hA, _, _⟩ := hbr; exact hA.sto
          have c1 : w12.cell? ⟨S, 1, none⟩ = some (.int .u64 (b.1 : Int)) := cell_of_row _ _ 1 _ _ _ hso
          have t1 := thaw0 1 hso
          have hso2 := heap_setCell_same w12 S 1 (stoC p b) _ (.int .u64 (slot : Int)) hso
          have t2 := thaw0 2 hso2
          have c2 : (w12.setCell ⟨S, 1, none⟩ (.int .u64 (slot : Int))).cell? ⟨S, 2, none⟩ = some (.string ⟨b.2.toArray⟩) := cell_of_row _ _ 2 _ _ _ hso2
          have hso3 := heap_setCell_same _ S 2 _ _ (.string x) hso2
          have hbr3 : BaR S p bb L (syncD (appD D (bname slot) (frL I)).1 (bname slot)).1 (slot, x.data.toList) w ((w12.setCell ⟨S, 1, none⟩ (.int .u64 (slot : Int))).setCell ⟨S, 2, none⟩ (.string x)) := hbr.set (ButOne.st (ButOne.st ⟨rfl, rfl, rfl, Nat.le_refl _, fun _ _ _ => rfl⟩)) (by rw [StoAt, hso3]; rfl)
          have HBR3 := Lib.hid hbr3
          clear hk0 he2 hso hso2 hso3 hbr hbr3
          by_cases hb0 : b.1 = 0
          · have hbz : ((b.1 : Int) == 0) = true := by rw [hb0]; rfl
            have HT4 := Lib.hid (HT3.out.trans (if_pos hb0))
            clear hb0
            go_wp2
            go_ret
            rw [HT4.out]
            exact ⟨rfl, HBR3.out⟩
          · have hbz : ((b.1 : Int) == 0) = false := by rw [beq_eq_false_iff_ne]; omega
            have HT4 := Lib.hid (HT3.out.trans (if_neg hb0))
            clear hb0
            go_wp2
            clear c1 c2 t1 t2
            generalize (w12.setCell ⟨S, 1, none⟩ (.int .u64 (slot : Int))).setCell ⟨S, 2, none⟩ (.string x) = w15 at *
            have HBR := Lib.hid (HBR3.out)
            have HPV := Lib.hid (fun (y : World) (hy : Below w15.heap.size w15 y) => hv y (((HBR.out.below hy)).far hB0 hBS hBL))
            have HSP := Lib.hid (fun (y : World) (hy : Below w15.heap.size w15 y) => (show y.cell? ⟨S, 0, none⟩ = some (.pointer (some ⟨p, 0, none⟩)) from by
              obtain ⟨L1, hA, _, _⟩ := HBR.out.below hy
              exact cell_of_row _ _ 0 _ _ _ hA.sto))
            refine (wpIn_wide (n := 1)).1 ?_
            refine RegK.wpIn_region_can (F := Fence.wide) (KeptW w15) [(0, 0), (1, 0), (2, 0), (3, 0), (4, 0), (5, 1), (6, 3), (7, 0)] (by kernel_rfl) (by kernel_rfl) (by kernel_rfl) (fun _ _ d _ _ h => by cases d <;> exact h) ⟨rfl, rfl, rfl, Nat.le_refl _, fun _ _ => rfl⟩ ?_
            dsimp only [RegK.pick, List.getElem?_cons_zero, List.getElem?_cons_succ]
            change RegK.Can _ _ _ _ _ _ _ _ w15.drew
            have hkd : KeptW w15 w15.drew := ⟨rfl, rfl, rfl, Nat.le_refl _, fun _ _ => rfl⟩
            generalize w15.drew = v8 at *
            iterate 3 (refine RegK.can_reads ?_; intro K hK; go_simp; (first | refine ⟨_, fun _ _ => rfl, hK _ ?_⟩ | refine hK _ ?_); clear hK K)
            refine RegK.can_reads ?_
            intro K hK
            go_simp
            refine ⟨.pointer (some ⟨p, 0, none⟩), fun y hy => ?_, hK _ ?_⟩
            · have c0 := HSP.out y (KeptW.bel hy)
              go_simp
            clear hK K
            refine RegK.can_reads ?_; intro K hK; go_simp; (first | refine ⟨_, fun _ _ => rfl, hK _ ?_⟩ | refine hK _ ?_); clear hK K
            refine RegK.can_turns (fun _ => trivial) ?_
            intro K K0 hK hK0
            go_simp
            refine ⟨trivial, ?_⟩
            refine (callsIn_wide.2 (name_any b.1 hb64 v8 (HPV.out v8 (KeptW.bel hkd)))).mono ?_
            rintro e v2 ⟨rfl, hb7⟩
            have v2k : KeptW w15 v2 := KeptW.mono hkd hb7
            refine hK _ _ v2k ?_
            clear hK K hK0 K0
            obtain ⟨L1, hA, ht, hl⟩ := HBR.out.below (KeptW.bel v2k)
            obtain ⟨n1, C1, hd⟩ := hA.dsk
            refine RegK.can_frees (fun _ => trivial) ?_
            intro K K0 hK hK0
            go_simp
            refine ⟨trivial, ?_⟩
            refine (callsIn_wide.2 (remove_any ⟨(bname b.1).toArray⟩ (by rw [bname_size]; unfold maxLen; omega) _ hd hA.lt)).mono ?_
            rintro e w18 ⟨k, rfl, hr⟩
            have hbr : BaR S p bb L (remD (syncD (appD D (bname slot) (frL I)).1 (bname slot)).1 (bname b.1)).1 (slot, x.data.toList) w w18 := BaR.act hA ht hl hr
            have HK := Lib.hid hr.1
            clear hr
            refine hK (fun _ => True) _ _ trivial ?_
            clear hK K hK0 K0 hA ht hl hd v2k hb7 hkd
            refine RegK.can_reads ?_; intro K hK; go_simp; (first | refine ⟨_, fun _ _ => rfl, hK _ ?_⟩ | refine hK _ ?_); clear hK K
            refine RegK.can_nil ?_
            have hk := HK.out
            clear HK
            rw [show ((⟨(bname b.1).toArray⟩ : ByteArray).data.toList) = bname b.1 from rfl] at hk
            subst hk
            have HBR4 := Lib.hid hbr
            clear hbr
            go_wp2
            go_ret
            rw [HT4.out]
            exact ⟨rfl, HBR4.out⟩
    · rw [if_pos hf] at hT
      rw [if_neg hf] at hF
      have HT := Lib.hid hT
      have hF2 : ((F.2 : Nat) : Int) = 6 := by rw [hF]; rfl
      rw [hF2] at Hp
      clear hT hF hF2 hf Hfin
      go_enter Tryz.func14, Tryz.ntmps14
      go_wp2_with (first
        | ((with_reducible refine Hn.out.mono ?_); rintro e w1 ⟨v1, rfl, ho1, hb1⟩; have Ho1 := Lib.hid (And.intro ho1 hb1); clear ho1 hb1)
        | ((with_reducible refine (Hs.out _ _ Ho1.out.1.read).mono ?_); rintro e w2 ⟨v2, rfl, ho2, hb2⟩
           have hcv := OwnB.read ho2 |>.conv (P := Tryz.prog) (src := 42) (dst := 9) (e := 5) Tryz.underlying42 Tryz.underlying5 Tryz.underlying9
           rw [← HZ.out] at hcv
           have Ho2 := Lib.hid (Ho1.out.2.trans (hb2.mono Ho1.out.2.size)); clear ho2 hb2)
        | ((with_reducible refine (Hp.out _).mono ?_); rintro e w5 ⟨v3, rfl, ho3, hb3⟩; have Ho3 := Lib.hid (And.intro ho3 (Ho2.out.trans (hb3.mono Ho2.out.size))); clear ho3 hb3))
      go_ret
      rw [HT.out]
      exact ⟨rfl, (BaR.refl H.out).below Ho3.out.2⟩
end Go.Proofs.YtogfladmgbldcaaGreatDoor
namespace Go.Proofs.YtogfladmgbldcaaGreatDoor
theorem hexC1_fin : ∀ d : Fin 16, hexV (hexC1 d.val) = some d.val := by decide +kernel
theorem hexC1_acc {d : Nat} (h : d < 16) : hexV (hexC1 d) = some d := hexC1_fin ⟨d, h⟩
theorem hexW_acc : ∀ k n, n < 16 ^ k → hexAcc (hexW k n) = some n
  | 0, n, h => by
    have : n = 0 := by simpa using h
    rw [this]; rfl
  | k + 1, n, h => by
    have h1 : n / 16 < 16 ^ k := by
      rw [Nat.pow_succ] at h
      omega
    rw [hexW, hexAcc_snoc, hexW_acc k _ h1]
    unfold hexStep
    rw [hexC1_acc (Nat.mod_lt _ (by decide))]
    show some (n / 16 * 16 + n % 16) = some n
    congr 1
    omega
theorem bname_len (n : Nat) : (bname n).length = 17 := by unfold bname; rw [List.length_cons, hexW_len]
theorem slot_name {n : Nat} (h1 : 1 ≤ n) (h2 : n < 18446744073709551616) : slotD (bname n) = some n := by
  unfold slotD
  rw [if_pos (bname_len n), show (bname n).drop 1 = hexW 16 n from rfl, hexW_acc 16 n h2]
  show (if n ≠ 0 ∧ bname n = bname n then some n else none) = some n
  rw [if_pos ⟨by omega, rfl⟩]
theorem bname_inj {n m : Nat} (hn : n < 18446744073709551616) (hm : m < 18446744073709551616) (h : bname n = bname m) : n = m := by
  have h2 : hexW 16 n = hexW 16 m := (List.cons.inj h).2
  have h3 := hexW_acc 16 n hn
  rw [h2, hexW_acc 16 m hm] at h3
  exact (Option.some.inj h3).symm
theorem insB_len (slot : Nat) (t : Bs) : (insB slot t).length ≤ 18 + t.length ∧ 2 ≤ (insB slot t).length := by
  unfold insB
  have h1 := numL_len slot
  have h2 := numL_len t.length
  simp only [List.length_append]
  omega
theorem insB_ok {slot : Nat} {t : Bs} (h : t.length ≤ 300) : frOk (insB slot t) := by
  have h1 := insB_len slot t
  exact ⟨by omega, by omega⟩
/-- A base's file. -/
def goodF (slot : Nat) (t : Bs) : FilV := ⟨bname slot, frL (insB slot t), (frL (insB slot t)).length⟩
theorem frI_len {slot : Nat} {t : Bs} (h : t.length ≤ 300) : (frL (insB slot t)).length ≤ 335 ∧ 11 ≤ (frL (insB slot t)).length := by
  have h1 := insB_len slot t
  have h2 := numL_len (insB slot t).length
  rw [frL_len]
  omega
theorem rdB_ins {slot : Nat} {t : Bs} (hs : slot < 18446744073709551616) (h : t.length ≤ 300) : (RdV.mk 0 (insB slot t)).num = (slot, ⟨0, numL t.length ++ t⟩) ∧ (RdV.mk 0 (numL t.length ++ t)).str 65536 = (t, ⟨0, []⟩) := by
  refine ⟨num_app hs _, ?_⟩
  have h2 := str_app' (t := t) (most := 65536) (by omega) (by decide) []
  rw [List.append_nil] at h2
  exact h2
theorem take_good {slot : Nat} {t : Bs} (h : t.length ≤ 300) : takeF (frL (insB slot t)) = (insB slot t, (frL (insB slot t)).length, 0) := by
  have h2 := take_fr (insB_ok (slot := slot) h).1 (insB_ok (slot := slot) h).2 []
  rw [List.append_nil] at h2
  exact h2
theorem look_good {slot n : Nat} {t : Bs} (hs : slot < 18446744073709551616) (h : t.length ≤ 300) (nm : Bs) : lookD n ⟨nm, frL (insB slot t), (frL (insB slot t)).length⟩ = if slot ≠ n then (2, []) else (1, t) := by
  obtain ⟨q1, q2⟩ := rdB_ins hs h
  have hl := (frI_len (slot := slot) h).2
  unfold lookD
  dsimp only
  rw [if_neg (by omega), take_good h]
  dsimp only
  rw [if_neg (by simp)]
  have hr : (rdB (insB slot t)).e = 0 := by
    unfold rdB
    rw [q1]
    dsimp only
    rw [q2]
    rfl
  rw [hr, q1]
  dsimp only
  rw [q2]
  by_cases hn : slot = n
  · rw [if_neg (by simp [hn]), if_neg (by simp [hn])]
  · rw [if_pos (.inr hn), if_pos hn]
def stF (b : Nat × Bs) : List FilV := if b.1 = 0 then [] else [goodF b.1 b.2]
/-- A disk that holds nothing but the last base. -/
structure Sto (D : DskV) (b : Nat × Bs) : Prop where
  dead : D.dead = false
  fs : D.fs = stF b
  b64 : b.1 < 18446744073709551616
  len : b.2.length ≤ 300
  zero : b.1 = 0 → b.2 = []
  sum : D.room + totF D.fs = 4194304
theorem sto0 : Sto dsk0 (0, []) := ⟨rfl, rfl, by decide, by decide, fun _ => rfl, rfl⟩
theorem base_one {slot : Nat} {f : FilV} (h1 : 1 ≤ slot) (hs : slot < 18446744073709551616) (hf : f.nm = bname slot) : baseF f = some (slot, f) := by
  unfold baseF
  rw [hf, slot_name h1 hs]
  rfl
theorem stF_base {b : Nat × Bs} (hs : b.1 < 18446744073709551616) : baseL (stF b) = if b.1 = 0 then [] else [(b.1, goodF b.1 b.2)] := by
  unfold stF
  by_cases h : b.1 = 0
  · rw [if_pos h, if_pos h]; rfl
  · rw [if_neg h, if_neg h]
    unfold baseL
    rw [List.filterMap_cons, base_one (by omega) hs rfl]
    rfl
theorem lk_good {slot : Nat} {t : Bs} (hs : slot < 18446744073709551616) (h : t.length ≤ 300) : lookD slot (goodF slot t) = (1, t) := by
  unfold goodF
  rw [look_good hs h, if_neg (by simp)]
theorem open_sto {D : DskV} {b : Nat × Bs} (h : Sto D b) : ¬ spoilt (baseL D.fs) ∧ lastG (baseL D.fs) = b ∧ rems D (rmN (baseL D.fs)) = D := by
  have hk := lk_good h.b64 h.len
  rw [h.fs, stF_base h.b64]
  by_cases h0 : b.1 = 0
  · rw [if_pos h0]
    have := h.zero h0
    refine ⟨fun hx => ?_, ?_, rfl⟩
    · obtain ⟨x, hx, _⟩ := hx
      cases hx
    · show ((0 : Nat), ([] : Bs)) = b
      rw [← h0, ← this]
  · rw [if_neg h0]
    have hl : lkN (b.1, goodF b.1 b.2) = 1 := by unfold lkN; rw [hk]
    refine ⟨fun hx => ?_, ?_, ?_⟩
    · obtain ⟨x, hx, h2⟩ := hx
      rw [List.mem_singleton.1 hx, hl] at h2
      cases h2
    · show (if lkN (b.1, goodF b.1 b.2) = 1 then (b.1, (lookD b.1 (goodF b.1 b.2)).2) else (0, [])) = b
      rw [if_pos hl, hk]
    · have hy : youngN [(b.1, goodF b.1 b.2)] = [] := by unfold youngN; rw [List.filter_cons_of_neg (by simp [hl])]; rfl
      have hg : goodN [(b.1, goodF b.1 b.2)] = [bname b.1] := by unfold goodN; rw [List.filter_cons_of_pos (by simp [hl])]; rfl
      unfold rmN
      rw [hy, hg]
      rfl
theorem stF_rise (b : Nat × Bs) : Rise (stF b) := by
  unfold stF
  split
  · exact List.Pairwise.nil
  · exact List.pairwise_singleton _ _
theorem stF_len (b : Nat × Bs) : (stF b).length ≤ 1 := by
  unfold stF
  split <;> simp
theorem stF_none {b : Nat × Bs} {slot : Nat} (hb : b.1 < 18446744073709551616) (hs : slot < 18446744073709551616) (h : b.1 < slot) : findF (bname slot) (stF b) = none := by
  unfold stF
  split
  · rfl
  · unfold findF
    rw [List.find?_cons_of_neg]
    · rfl
    · have hne : bname b.1 ≠ bname slot := fun e => by have := bname_inj hb hs e; omega
      exact fun e => hne (of_decide_eq_true e)
theorem stF_tot {b : Nat × Bs} (h : b.2.length ≤ 300) : totF (stF b) ≤ 335 := by
  unfold stF
  split
  · decide
  · rw [tot_cons]
    have := (frI_len (slot := b.1) h).1
    show (frL (insB b.1 b.2)).length + 0 ≤ _
    omega
/-- The power went while a base was saved. -/
structure Torn (D : DskV) (b : Nat × Bs) (slot : Nat) (t : Bs) : Prop where
  dead : D.dead = true
  fuse : D.fuse = none
  fs : ∃ xs, D.fs = putF ⟨bname slot, xs, 0⟩ (stF b) ∧ xs.length ≤ 335
  sum : D.room + totF D.fs = 4194304
theorem putf_del {g : FilV} {b : Nat × Bs} (hb : b.1 ≠ 0) (hn : bname b.1 ≠ g.nm) : delF (bname b.1) (putF g (stF b)) = [g] := by
  have h1 : decide (g.nm ≠ bname b.1) = true := by simpa using Ne.symm hn
  have h2 : decide ((goodF b.1 b.2).nm ≠ bname b.1) = false := by simp [goodF]
  unfold stF
  rw [if_neg hb]
  unfold putF delF
  rw [if_neg (show ¬ (goodF b.1 b.2).nm = g.nm from hn)]
  split
  · rw [List.filter_cons_of_pos (p := fun f : FilV => decide (f.nm ≠ bname b.1)) h1, List.filter_cons_of_neg (by rw [h2]; decide)]; rfl
  · rw [List.filter_cons_of_neg (by rw [h2]; decide)]
    show List.filter _ (putF g []) = _
    unfold putF
    rw [List.filter_cons_of_pos (p := fun f : FilV => decide (f.nm ≠ bname b.1)) h1]; rfl
theorem save_sto {D : DskV} {b : Nat × Bs} (h : Sto D b) {slot : Nat} {t : Bs} (hlt : b.1 < slot) (hs : slot < 18446744073709551616) (ht : t.length ≤ 300) :
    (∃ D', saveB D b slot t = (D', (slot, t), 0) ∧ Sto D' (slot, t) ∧ (D.fuse = none → D'.fuse = none)) ∨
    (D.fuse ≠ none ∧ ∃ D', saveB D b slot t = (D', b, 9) ∧ Torn D' b slot t) := by
  have hnone := stF_none h.b64 hs hlt
  rw [← h.fs] at hnone
  have hfl := frI_len (slot := slot) ht
  have htot := stF_tot h.len
  have hsum := h.sum
  rw [← h.fs] at htot
  have hlen := stF_len b
  rw [← h.fs] at hlen
  have hrise := stF_rise b
  rw [← h.fs] at hrise
  obtain ⟨X, hX⟩ : ∃ X, X = frL (insB slot t) := ⟨_, rfl⟩
  have happ : appD D (bname slot) X = match D.fuse with
      | some k => if k < X.length then ({ D.more ⟨bname slot, [], 0⟩ (X.take k) with fuse := none, dead := true }, 9) else ({ D.more ⟨bname slot, [], 0⟩ X with fuse := some (k - X.length) }, 0)
      | none => (D.more ⟨bname slot, [], 0⟩ X, 0) := by
    unfold appD
    rw [h.dead, if_neg (by simp), if_neg (by rw [bname_len]; omega), if_neg (by rw [hX]; omega), hnone]
    rfl
  have hgood : ∀ o, appD D (bname slot) X = ({ D.more ⟨bname slot, [], 0⟩ X with fuse := o }, 0) → (∃ D', saveB D b slot t = (D', (slot, t), 0) ∧ Sto D' (slot, t) ∧ D'.fuse = o) := fun o ho => by
    obtain ⟨D1, hD1⟩ : ∃ D1, D1 = ({ D.more ⟨bname slot, [], 0⟩ X with fuse := o } : DskV) := ⟨_, rfl⟩
    rw [← hD1] at ho
    have f1 : D1.fs = putF ⟨bname slot, X, 0⟩ D.fs := by rw [hD1]; rfl
    have r1 : D1.room = D.room - X.length := by rw [hD1]; rfl
    have d1 : D1.dead = false := by rw [hD1]; exact h.dead
    have u1 : D1.fuse = o := by rw [hD1]
    have hsy : syncD D1 (bname slot) = ({ D1 with fs := putF (goodF slot t) D.fs }, 0) := by
      unfold syncD
      rw [with_some d1 (f := ⟨bname slot, X, 0⟩) (by rw [f1]; exact put_find (f := ⟨bname slot, X, 0⟩))]
      rw [f1]
      show ({ D1 with fs := putF ⟨bname slot, X, X.length⟩ (putF ⟨bname slot, X, 0⟩ D.fs) }, 0) = _
      rw [put_put (f := ⟨bname slot, X, X.length⟩) (g := ⟨bname slot, X, 0⟩) rfl, hX]
      rfl
    have t1 : totF (putF (goodF slot t) D.fs) = totF D.fs + X.length := by rw [(put_new (f := goodF slot t) hrise hnone).1, hX]; rfl
    unfold saveB
    rw [if_neg (by omega), if_neg (fun q => q (insB_ok ht)), ← hX, ho, if_neg (by simp)]
    dsimp only
    rw [hsy, if_neg (by simp)]
    by_cases h0 : b.1 = 0
    · rw [if_pos h0]
      refine ⟨_, rfl, ⟨d1, ?_, hs, ht, fun q => ?_, ?_⟩, u1⟩
      · show putF (goodF slot t) D.fs = _
        rw [h.fs]
        unfold stF
        rw [if_pos h0, if_neg (by show slot ≠ 0; omega)]
        rfl
      · exact absurd q (by show slot ≠ 0; omega)
      · show D1.room + totF (putF (goodF slot t) D.fs) = _
        rw [t1, r1]
        rw [← hX] at hfl
        omega
    · rw [if_neg h0]
      have hne : bname b.1 ≠ bname slot := fun e => by have := bname_inj h.b64 hs e; omega
      have hfo : findF (bname b.1) (putF (goodF slot t) D.fs) = some (goodF b.1 b.2) := by
        rw [put_other (by exact hne), h.fs]
        unfold stF findF
        rw [if_neg h0, List.find?_cons_of_pos (by simp [goodF])]
      have hde : delF (bname b.1) (putF (goodF slot t) D.fs) = [goodF slot t] := by rw [h.fs]; exact putf_del h0 hne
      rw [rem_one (D := { D1 with fs := putF (goodF slot t) D.fs }) d1 hfo]
      refine ⟨_, rfl, ⟨d1, ?_, hs, ht, fun q => ?_, ?_⟩, u1⟩
      · show delF (bname b.1) (putF (goodF slot t) D.fs) = _
        rw [hde]
        unfold stF
        rw [if_neg (by show slot ≠ 0; omega)]
      · exact absurd q (by show slot ≠ 0; omega)
      · show D1.room + (goodF b.1 b.2).by_.length + totF (delF (bname b.1) (putF (goodF slot t) D.fs)) = _
        rw [hde, r1, tot_cons]
        have h3 : totF D.fs = (goodF b.1 b.2).by_.length := by rw [h.fs]; unfold stF; rw [if_neg h0, tot_cons]; rfl
        have h4 : (goodF slot t).by_.length = X.length := by rw [hX]; rfl
        rw [← hX] at hfl
        show _ + ((goodF slot t).by_.length + 0) = _
        omega
  cases hf : D.fuse with
  | none =>
    rw [hf] at happ
    left
    obtain ⟨D', h1, h2, h3⟩ := hgood none (by rw [happ]; unfold DskV.more; rw [hf])
    exact ⟨D', h1, h2, fun _ => h3⟩
  | some k =>
    rw [hf] at happ
    dsimp only at happ
    by_cases hk : k < X.length
    · right
      rw [if_pos hk] at happ
      refine ⟨by simp, { D.more ⟨bname slot, [], 0⟩ (X.take k) with fuse := none, dead := true }, ?_, rfl, rfl, ⟨X.take k, ?_, ?_⟩, ?_⟩
      · unfold saveB
        rw [if_neg (by omega), if_neg (fun q => q (insB_ok ht)), ← hX, happ, if_pos (by simp)]
      · show putF _ D.fs = _
        rw [h.fs]
        rfl
      · rw [List.length_take]
        rw [← hX] at hfl
        omega
      · show D.room - (X.take k).length + totF (putF ⟨bname slot, [] ++ X.take k, 0⟩ D.fs) = _
        rw [(put_new (f := ⟨bname slot, [] ++ X.take k, 0⟩) hrise hnone).1]
        have h1 : ([] ++ X.take k).length = (X.take k).length := by simp
        have h2 : (X.take k).length ≤ X.length := by rw [List.length_take]; omega
        show _ + (_ + ([] ++ X.take k).length) = _
        rw [h1]
        rw [← hX] at hfl
        omega
    · left
      rw [if_neg hk] at happ
      obtain ⟨D', h1, h2, h3⟩ := hgood _ happ
      exact ⟨D', h1, h2, fun q => by cases q⟩
end Go.Proofs.YtogfladmgbldcaaGreatDoor
namespace Go.Proofs.YtogfladmgbldcaaGreatDoor
open Go.RowKit Go.Shelf
/-- A disk, all of whose blocks lie at N or behind. -/
def Dk (N p bb : Nat) (D : DskV) (w : World) : Prop := ∃ n C L, DskAt w p bb n C L D ∧ ∀ g ∈ L, N ≤ g ∧ g < w.heap.size
/-- A store and its disk, likewise. -/
def St (N S p bb : Nat) (D : DskV) (b : Nat × Bs) (w : World) : Prop := ∃ L, BaAt w S p bb L D b ∧ N ≤ S ∧ ∀ g ∈ L, N ≤ g
theorem St.dk {N S p bb : Nat} {D : DskV} {b : Nat × Bs} {w : World} (h : St N S p bb D b w) : Dk N p bb D w := by
  obtain ⟨L, h1, _, h3⟩ := h
  obtain ⟨n, C, hd⟩ := h1.dsk
  exact ⟨n, C, L, hd, fun g hg => ⟨h3 g hg, h1.lt g hg⟩⟩
theorem Dk.below {N p bb : Nat} {D : DskV} {w w' : World} (h : Dk N p bb D w) (hb : Below w.heap.size w w') : Dk N p bb D w' := by
  obtain ⟨n, C, L, h1, h2⟩ := h
  exact ⟨n, C, L, h1.keep (fun g hg => hb.block g (h2 g hg).2), fun g hg => ⟨(h2 g hg).1, Nat.lt_of_lt_of_le (h2 g hg).2 hb.size⟩⟩
theorem St.below {N S p bb : Nat} {D : DskV} {b : Nat × Bs} {w w' : World} (h : St N S p bb D b w) (hb : Below w.heap.size w w') : St N S p bb D b w' := by
  obtain ⟨L, h1, h2, h3⟩ := h
  exact ⟨L, h1.below hb, h2, h3⟩
theorem new_dk (N : Nat) (w : World) (hN : N ≤ w.heap.size) : Calls Tryz.prog 16 #[] w fun e w' => ∃ p bb, e = .returned (.pointer (some ⟨p, 0, none⟩)) ∧ Dk N p bb dsk0 w' ∧ Below N w w' := by
  refine (new_any w).mono ?_
  rintro e w' ⟨C, L, rfl, hd, hb, hl⟩
  obtain ⟨L2, hd2, h2⟩ := hd.trim
  exact ⟨_, _, rfl, ⟨_, C, L2, hd2, fun g hg => ⟨Nat.le_trans hN (hl g (h2 g hg).1), (h2 g hg).2⟩⟩, hb.mono hN⟩
theorem turns_below {N : Nat} {L : List Nat} {w w' : World} (h : Turns L w w') (hN : N ≤ w.heap.size) (hL : ∀ g ∈ L, N ≤ g) : Below N w w' := h.below (Below.refl _ _) hN hL
theorem open_dk {N p bb : Nat} {D : DskV} {w : World} (hN : N ≤ w.heap.size) (hlen : D.fs.length ≤ 1000000) (hnl : ∀ f ∈ D.fs, f.nm.length ≤ maxLen) (hv : PV w) (h : Dk N p bb D w) (hdd : D.dead = false) (hs : ¬ spoilt (baseL D.fs)) :
    Calls Tryz.prog 12 #[.pointer (some ⟨p, 0, none⟩)] w fun e w' => ∃ S, e = .returned (.tuple #[.pointer (some ⟨S, 0, none⟩), .int .i64 0]) ∧ St N S p bb (rems D (rmN (baseL D.fs))) (lastG (baseL D.fs)) w' ∧ Below N w w' := by
  obtain ⟨n, C, L, h1, h2⟩ := h
  refine (open_any hlen hnl w hv h1 (fun g hg => (h2 g hg).2) hdd).mono ?_
  rintro e w' (⟨q, _⟩ | ⟨_, S, rfl, hst, hS, n', C', L', hd, ht, hl, hoff⟩)
  · exact (hs q).elim
  · refine ⟨S, rfl, ⟨L', ⟨hst, ⟨n', C', hd⟩, fun g hg => (hl g hg).2, hoff⟩, Nat.le_trans hN hS, fun g hg => ?_⟩, turns_below ht hN (fun g hg => (h2 g hg).1)⟩
    rcases (hl g hg).1 with q | q
    · exact (h2 g q).1
    · omega
theorem save_st {N S p bb : Nat} {D : DskV} {b : Nat × Bs} {w : World} (hN : N ≤ w.heap.size) (slot : Nat) (x : ByteArray) (hs64 : slot < 18446744073709551616) (hb64 : b.1 < 18446744073709551616) (hx : x.size ≤ 1000000) (hv : PVB N w) (h : St N S p bb D b w) :
    Calls Tryz.prog 14 #[.pointer (some ⟨S, 0, none⟩), .int .u64 (slot : Int), .string x] w fun e w' => e = .returned (.int .i64 ((saveB D b slot x.data.toList).2.2 : Int)) ∧ St N S p bb (saveB D b slot x.data.toList).1 (saveB D b slot x.data.toList).2.1 w' ∧ Below N w w' := by
  obtain ⟨L, h1, h2, h3⟩ := h
  refine (save_any N S p bb slot L D b x hs64 hb64 hx w hv hN h2 h3 h1).mono ?_
  rintro e w' ⟨rfl, L1, g1, g2, g3⟩
  refine ⟨rfl, ⟨L1, g1, h2, fun g hg => ?_⟩, turns_below g2 hN (fun g hg => by
      rcases List.mem_cons.1 hg with q | q
      · rw [q]; exact h2
      · exact h3 g q)⟩
  rcases g3 g hg with q | q
  · exact h3 g q
  · omega
theorem base_st {N S p bb : Nat} {D : DskV} {b : Nat × Bs} {w : World} (h : St N S p bb D b w) :
    Calls Tryz.prog 13 #[.pointer (some ⟨S, 0, none⟩)] w fun e w' => e = .returned (.tuple #[.int .u64 (b.1 : Int), .string ⟨(if b.1 = 0 then [] else b.2).toArray⟩, .bool (decide (b.1 ≠ 0))]) ∧ St N S p bb D b w' ∧ Below w.heap.size w w' := by
  obtain ⟨L, h1, h2, h3⟩ := id h
  refine (base_any S p b w h1.sto).mono ?_
  rintro e w' ⟨rfl, hb⟩
  exact ⟨rfl, h.below hb, hb⟩
theorem files_dk {N p bb : Nat} {D : DskV} {w : World} (hlen : D.fs.length ≤ 1000000) (h : Dk N p bb D w) :
    Calls Tryz.prog 19 #[.pointer (some ⟨p, 0, none⟩)] w fun e w' => ∃ v, e = .returned v ∧ w'.ownsRow w.heap.size 35 3 v D.fs.length (flat filE D.fs) ∧ Below w.heap.size w w' := by
  obtain ⟨n, C, L, h1, h2⟩ := h
  exact callsIn_wide.1 (files_in p bb n C L D hlen w h1)
/-- A row of one file. -/
theorem one_file {w : World} {base : Nat} {v : Value} {l : List FilV} {f : FilV} (hl : l = [f]) (h : w.ownsRow base 35 3 v l.length (flat filE l)) : ∃ g c, v = .slice (some ⟨g, 0, none⟩) 1 c ∧ base ≤ g ∧ ∀ y, Below w.heap.size w y → y.cell? ⟨g, 0, none⟩ = some (.string ⟨f.nm.toArray⟩) ∧ y.cell? ⟨g, 1, none⟩ = some (.string ⟨f.by_.toArray⟩) ∧ y.cell? ⟨g, 2, none⟩ = some (.int .i64 (f.sy : Int)) := by
  subst hl
  obtain ⟨A, c, hv, Y, hY, h1⟩ := files_row (N := 1) rfl h
  obtain ⟨g, rfl, h2⟩ := h1 0 f rfl
  refine ⟨g, c, hv, ?_, fun y hy => ?_⟩
  · subst hv
    exact (own_at h rfl).1
  · have h3 := h2 y (fun r o hr ho => (hy.block r (hY r hr).2).trans ho)
    simpa using h3
end Go.Proofs.YtogfladmgbldcaaGreatDoor
namespace Go.Proofs.YtogfladmgbldcaaGreatDoor
open Go.RowKit Go.Shelf
theorem bname20 : bname 20 = [98, 48, 48, 48, 48, 48, 48, 48, 48, 48, 48, 48, 48, 48, 48, 49, 52] := by decide +kernel
set_option maxRecDepth 100000 in
set_option maxHeartbeats 16000000 in
theorem wakes06_any (w : World) (hv0 : PV w) : Calls Tryz.prog 15 #[] w fun e w' => e = .returned (.bool true) ∧ Below w.heap.size w w' := by
  obtain ⟨N, hN⟩ : ∃ N, N = w.heap.size := ⟨_, rfl⟩
  have hv : PVB N w := by rw [hN]; exact PVB.of hv0
  have hN0 : N ≤ w.heap.size := by omega
  rw [← hN]
  clear hN hv0
  obtain ⟨D1, e1, s1, n1⟩ : ∃ D1, saveB dsk0 (0, []) 18 [120] = (D1, (18, [120]), 0) ∧ Sto D1 (18, [120]) ∧ D1.fuse = none := by
    rcases save_sto sto0 (slot := 18) (t := [120]) (by decide) (by decide) (by decide) with ⟨D1, a, b, c⟩ | ⟨a, _⟩
    · exact ⟨D1, a, b, c rfl⟩
    · exact (a rfl).elim
  have e2 : saveB D1 (18, [120]) 18 [121] = (D1, (18, [120]), 2) := by unfold saveB; rw [if_pos (by decide)]
  obtain ⟨D3, e3, s3, n3⟩ : ∃ D3, saveB D1 (18, [120]) 20 [121] = (D3, (20, [121]), 0) ∧ Sto D3 (20, [121]) ∧ D3.fuse = none := by
    rcases save_sto s1 (slot := 20) (t := [121]) (by decide) (by decide) (by decide) with ⟨D1, a, b, c⟩ | ⟨a, _⟩
    · exact ⟨D1, a, b, c n1⟩
    · exact (a n1).elim
  have o0 := open_sto sto0
  have Hnew := Lib.hid (fun (y : World) (hy : N ≤ y.heap.size) => new_dk N y hy)
  have Hop := Lib.hid (fun (p bb : Nat) (y : World) (hy : N ≤ y.heap.size) (hp : PV y) (h : Dk N p bb dsk0 y) => by have h2 := open_dk hy (by decide) (fun f hf => (by cases hf)) hp h rfl o0.1; rw [o0.2.1, o0.2.2] at h2; exact h2)
  have Hs1 := Lib.hid (fun (S p bb : Nat) (y : World) (hy : N ≤ y.heap.size) (hp : PVB N y) (h : St N S p bb dsk0 (0, []) y) => by have h2 := save_st hy 18 ⟨#[120]⟩ (by decide) (by decide) (by decide) hp h; rw [show saveB dsk0 (0, []) 18 (⟨#[120]⟩ : ByteArray).data.toList = _ from e1] at h2; exact (show Calls Tryz.prog 14 #[.pointer (some ⟨S, 0, none⟩), .int .u64 18, .string ⟨#[120]⟩] y (fun e w' => e = .returned (.int .i64 0) ∧ St N S p bb D1 (18, [120]) w' ∧ Below N y w') from h2))
  have Hs2 := Lib.hid (fun (S p bb : Nat) (y : World) (hy : N ≤ y.heap.size) (hp : PVB N y) (h : St N S p bb D1 (18, [120]) y) => by have h2 := save_st hy 18 ⟨#[121]⟩ (by decide) (by decide) (by decide) hp h; rw [show saveB D1 (18, [120]) 18 (⟨#[121]⟩ : ByteArray).data.toList = _ from e2] at h2; exact (show Calls Tryz.prog 14 #[.pointer (some ⟨S, 0, none⟩), .int .u64 18, .string ⟨#[121]⟩] y (fun e w' => e = .returned (.int .i64 2) ∧ St N S p bb D1 (18, [120]) w' ∧ Below N y w') from h2))
  have Hs3 := Lib.hid (fun (S p bb : Nat) (y : World) (hy : N ≤ y.heap.size) (hp : PVB N y) (h : St N S p bb D1 (18, [120]) y) => by have h2 := save_st hy 20 ⟨#[121]⟩ (by decide) (by decide) (by decide) hp h; rw [show saveB D1 (18, [120]) 20 (⟨#[121]⟩ : ByteArray).data.toList = _ from e3] at h2; exact (show Calls Tryz.prog 14 #[.pointer (some ⟨S, 0, none⟩), .int .u64 20, .string ⟨#[121]⟩] y (fun e w' => e = .returned (.int .i64 0) ∧ St N S p bb D3 (20, [121]) w' ∧ Below N y w') from h2))
  have f3 : D3.fs = [goodF 20 [121]] := s3.fs
  have Hfs := Lib.hid (fun (S p bb : Nat) (y : World) (h : St N S p bb D3 (20, [121]) y) => files_dk (by rw [f3]; decide) h.dk)
  have Hba := Lib.hid (fun (S p bb : Nat) (y : World) (h : St N S p bb D3 (20, [121]) y) => show Calls Tryz.prog 13 #[.pointer (some ⟨S, 0, none⟩)] y (fun e w' => e = .returned (.tuple #[.int .u64 20, .string ⟨#[121]⟩, .bool true]) ∧ St N S p bb D3 (20, [121]) w' ∧ Below y.heap.size y w') from base_st h)
  have HF := Lib.hid f3
  have HW := Lib.hid (And.intro hv hN0)
  clear e1 e2 e3 s1 s3 n1 n3 o0 f3 hv hN0
  go_enter Tryz.func15, Tryz.ntmps15
  go_upto_region 8 with (first
    | (go_at_call 16; (with_reducible refine (Hnew.out _ HW.out.2).mono ?_); rintro e w1 ⟨p, bb, rfl, hd, hb⟩; have H1 := Lib.hid (And.intro hd (And.intro (HW.out.1.on hb) (Nat.le_trans HW.out.2 hb.size))); have HB1 := Lib.hid hb; clear hd hb)
    | (go_at_call 12; (with_reducible refine (Hop.out p bb _ H1.out.2.2 H1.out.2.1.here H1.out.1).mono ?_); rintro e w2 ⟨S, rfl, hd, hb⟩; have H2 := Lib.hid (And.intro hd (And.intro (H1.out.2.1.on hb) (Nat.le_trans H1.out.2.2 hb.size))); have HB2 := Lib.hid (HB1.out.trans hb); clear hd hb)
    | (go_at_call 14; (with_reducible refine (Hs1.out S p bb _ H2.out.2.2 H2.out.2.1 H2.out.1).mono ?_); rintro e w3 ⟨rfl, hd, hb⟩; have H3 := Lib.hid (And.intro hd (And.intro (H2.out.2.1.on hb) (Nat.le_trans H2.out.2.2 hb.size))); have HB3 := Lib.hid (HB2.out.trans hb); clear hd hb)
    | (go_at_call 14; (with_reducible refine (Hs2.out S p bb _ H3.out.2.2 H3.out.2.1 H3.out.1).mono ?_); rintro e w4 ⟨rfl, hd, hb⟩; have H4 := Lib.hid (And.intro hd (And.intro (H3.out.2.1.on hb) (Nat.le_trans H3.out.2.2 hb.size))); have HB4 := Lib.hid (HB3.out.trans hb); clear hd hb)
    | (go_at_call 14; (with_reducible refine (Hs3.out S p bb _ H4.out.2.2 H4.out.2.1 H4.out.1).mono ?_); rintro e w5 ⟨rfl, hd, hb⟩; have H5 := Lib.hid (And.intro hd (And.intro (H4.out.2.1.on hb) (Nat.le_trans H4.out.2.2 hb.size))); have HB5 := Lib.hid (HB4.out.trans hb); clear hd hb)
    | (go_at_call 19; (with_reducible refine (Hfs.out S p bb _ H5.out.1).mono ?_); rintro e w6 ⟨v, rfl, ho, hb⟩; obtain ⟨gf, cf, rfl, hgf, hcf⟩ := one_file HF.out ho; have HC6 := Lib.hid hcf; have H6 := Lib.hid (And.intro (H5.out.1.below hb) (Nat.le_trans H5.out.2.2 hb.size)); have HB6 := Lib.hid (HB5.out.trans (hb.mono H5.out.2.2)); clear ho hb hgf hcf)
    | (go_at_call 13; (with_reducible refine (Hba.out S p bb _ H6.out.1).mono ?_); rintro e w7 ⟨rfl, hd, hb⟩; have HB7 := Lib.hid (HB6.out.trans (hb.mono H6.out.2)); have HX7 := Lib.hid hb; clear hd hb))
  obtain ⟨k0, k1, k2⟩ := HC6.out w7 HX7.out
  obtain ⟨z, hz⟩ : ∃ z : ByteArray, z = ⟨(goodF 20 [121]).by_.toArray⟩ := ⟨_, rfl⟩
  have hz2 : (((goodF 20 [121]).sy : Nat) : Int) = (z.size : Int) := by rw [hz]; simp [ByteArray.size, goodF]
  rw [show (goodF 20 [121]).nm = _ from bname20] at k0
  rw [← hz] at k1
  rw [hz2] at k2
  clear hz hz2
  go_quiet (fail)
  have hb := HB7.out.trans ((below_drewN (Below.refl w7.heap.size w7) nq).mono (Nat.le_trans HW.out.2 HB7.out.size))
  have HB := Lib.hid hb
  generalize w7.drewN nq = v1 at *
  clear hb
  go_wp2
  go_ret
  exact ⟨rfl, HB.out⟩
end Go.Proofs.YtogfladmgbldcaaGreatDoor
namespace Go.Proofs.YtogfladmgbldcaaGreatDoor
open Go.RowKit Go.Shelf
/-- The blocks of K hold what they held. -/
structure Holds (K : Nat → Prop) (w w' : World) : Prop where
  os : w'.os = w.os
  tape : w'.tape = w.tape
  out : w'.output = w.output
  size : w.heap.size ≤ w'.heap.size
  block : ∀ g, K g → w'.heap[g]? = w.heap[g]?
theorem Holds.refl (K : Nat → Prop) (w : World) : Holds K w w := ⟨rfl, rfl, rfl, Nat.le_refl _, fun _ _ => rfl⟩
theorem Holds.trans {K : Nat → Prop} {a b c : World} (h : Holds K a b) (k : Holds K b c) : Holds K a c := ⟨k.os.trans h.os, k.tape.trans h.tape, k.out.trans h.out, Nat.le_trans h.size k.size, fun g hg => (k.block g hg).trans (h.block g hg)⟩
theorem Holds.of {K : Nat → Prop} {w w' : World} (h : Below w.heap.size w w') (hK : ∀ g, K g → g < w.heap.size) : Holds K w w' := ⟨h.os, h.tape, h.output, h.size, fun g hg => h.block g (hK g hg)⟩
theorem Holds.below {K : Nat → Prop} {N : Nat} {w w' : World} (h : Holds K w w') (hN : ∀ g, g < N → K g) : Below N w w' := ⟨h.os, h.tape, h.out, h.size, fun g hg => h.block g (hN g hg)⟩
theorem Holds.turns {K : Nat → Prop} {L : List Nat} {w w' : World} (h : Turns L w w') (hK : ∀ g, K g → g < w.heap.size) (hL : ∀ g ∈ L, ¬ K g) : Holds K w w' := ⟨h.os, h.tape, h.out, h.size, fun g hg => h.block g (hK g hg) (fun q => hL g q hg)⟩
/-- A disk, none of whose blocks is one of K. -/
def DkK (K : Nat → Prop) (p bb : Nat) (D : DskV) (w : World) : Prop := ∃ n C L, DskAt w p bb n C L D ∧ ∀ g ∈ L, ¬ K g ∧ g < w.heap.size
/-- A store and its disk, likewise. -/
def StK (K : Nat → Prop) (S p bb : Nat) (D : DskV) (b : Nat × Bs) (w : World) : Prop := ∃ L, BaAt w S p bb L D b ∧ ¬ K S ∧ ∀ g ∈ L, ¬ K g
theorem StK.dk {K : Nat → Prop} {S p bb : Nat} {D : DskV} {b : Nat × Bs} {w : World} (h : StK K S p bb D b w) : DkK K p bb D w := by
  obtain ⟨L, h1, _, h3⟩ := h
  obtain ⟨n, C, hd⟩ := h1.dsk
  exact ⟨n, C, L, hd, fun g hg => ⟨h3 g hg, h1.lt g hg⟩⟩
theorem DkK.below {K : Nat → Prop} {p bb : Nat} {D : DskV} {w w' : World} (h : DkK K p bb D w) (hb : Below w.heap.size w w') : DkK K p bb D w' := by
  obtain ⟨n, C, L, h1, h2⟩ := h
  exact ⟨n, C, L, h1.keep (fun g hg => hb.block g (h2 g hg).2), fun g hg => ⟨(h2 g hg).1, Nat.lt_of_lt_of_le (h2 g hg).2 hb.size⟩⟩
theorem StK.below {K : Nat → Prop} {S p bb : Nat} {D : DskV} {b : Nat × Bs} {w w' : World} (h : StK K S p bb D b w) (hb : Below w.heap.size w w') : StK K S p bb D b w' := by
  obtain ⟨L, h1, h2, h3⟩ := h
  exact ⟨L, h1.below hb, h2, h3⟩
/-- New blocks are marked. -/
theorem St.mark {N S p bb : Nat} {D : DskV} {b : Nat × Bs} {w w' : World} (h : St N S p bb D b w) (hb : Below w.heap.size w w') {K : Nat → Prop} (hK : ∀ g, K g → g < N ∨ w.heap.size ≤ g) : StK K S p bb D b w' := by
  obtain ⟨L, h1, h2, h3⟩ := h
  have hS := (Array.getElem?_eq_some_iff.1 h1.sto).1
  refine ⟨L, h1.below hb, fun q => ?_, fun g hg q => ?_⟩
  · rcases hK S q with q | q <;> omega
  · have := h3 g hg
    have := h1.lt g hg
    rcases hK g q with q | q <;> omega
section
variable {K : Nat → Prop} {S p bb : Nat} {D : DskV} {b : Nat × Bs} {w : World}
theorem act_kdk {R : DskV × Nat} {f : FuncId} {args : Array Value} (hK : ∀ g, K g → g < w.heap.size) (h : DkK K p bb D w)
    (hc : ∀ n C L, DskAt w p bb n C L D → (∀ g ∈ L, g < w.heap.size) → Calls Tryz.prog f args w (fun e w' => ∃ k, e = .returned (.int .i64 k) ∧ DkR p bb L R w k w')) :
    Calls Tryz.prog f args w fun e w' => e = .returned (.int .i64 (R.2 : Int)) ∧ DkK K p bb R.1 w' ∧ Holds K w w' := by
  obtain ⟨n, C, L, h1, h2⟩ := h
  refine (hc n C L h1 (fun g hg => (h2 g hg).2)).mono ?_
  rintro e w' ⟨k, rfl, rfl, n', C', L', hd, ht, hl⟩
  obtain ⟨L2, hd2, hl2⟩ := hd.trim
  refine ⟨rfl, ⟨n', C', L2, hd2, fun g hg => ⟨fun q => ?_, (hl2 g hg).2⟩⟩, Holds.turns ht hK (fun g hg => (h2 g hg).1)⟩
  rcases hl g (hl2 g hg).1 with z | z
  · exact (h2 g z).1 q
  · have := hK g q
    omega
theorem files_kdk (hlen : D.fs.length ≤ 1000000) (h : DkK K p bb D w) :
    Calls Tryz.prog 19 #[.pointer (some ⟨p, 0, none⟩)] w fun e w' => ∃ v, e = .returned v ∧ w'.ownsRow w.heap.size 35 3 v D.fs.length (flat filE D.fs) ∧ Below w.heap.size w w' := by
  obtain ⟨n, C, L, h1, h2⟩ := h
  exact callsIn_wide.1 (files_in p bb n C L D hlen w h1)
end
end Go.Proofs.YtogfladmgbldcaaGreatDoor
