/- The law DeltaLeads: deltas lead from one machine to another one. No condition. -/
import Derived.Deep.DeepCutAuto
import Derived.Test.YtkngadbeflepoaaZDeltaLeads43
import Derived.Test.YtkngadbeflepoaaZDeltaLeads44
import Derived.Test.YtkngadbeflepoaaZDeltaLeads45
import Derived.Test.YtkngadbeflepoaaZDeltaLeads46
import Derived.Test.YtkngadbeflepoaaZDeltaLeads16
namespace Go.Proofs.Ytkngadbeflepoaa
open Go.RowKit
theorem all_both : ∀ a : Fin 256, (255 - (a.val &&& a.val &&& 127)) &&& 127 = (255 - a.val) &&& 127 := by decide +kernel
theorem new_all {al fi : Nat} (hal : al < 256) (h : mayS fi al = true) : MacAll (newM al fi) := by
  have hs : (newM al fi).sh = .nil := (newM_parts al fi).2
  refine ⟨macFit_new al fi, by rw [hs]; trivial, ?_⟩
  unfold newM
  rw [if_pos h]
  refine sets_mk ?_ (both_idem _).symm (both_idem _).symm
  show mayS (bothS fi fi) (bothS al al) = true
  rw [may_both]
  have e := all_both ⟨al, hal⟩
  simp only at e
  unfold mayS withoutS at h ⊢
  unfold bothS
  rw [Nat.and_assoc, e, ← Nat.and_assoc]
  exact h
/-- What lies there in DeltaLeads. -/
structure LeadI (w y : World) (ga gx gb : Nat) (A B : MacV) (X1 X2 X3 : Tr) : Prop where
  a : OneI y ga A X1
  x : OneI y gx B X2
  b : OneI y gb B X3
  bel : Below w.heap.size w y
  ne : gx ≠ gb ∧ ga ≠ gx ∧ ga ≠ gb ∧ w.heap.size ≤ gx ∧ w.heap.size ≤ gb
theorem LeadI.below {w y y' : World} {ga gx gb : Nat} {A B : MacV} {X1 X2 X3 : Tr} (h : LeadI w y ga gx gb A B X1 X2 X3) (hb : Below y.heap.size y y') : LeadI w y' ga gx gb A B X1 X2 X3 := ⟨h.a.below hb, h.x.below hb, h.b.below hb, h.bel.trans (hb.mono h.bel.size), h.ne⟩
theorem macDo_nodes (M : MacV) (c : CmdV) : (macDo M c).m.all = M.all := by
  have h : (macFresh M c).1.all = M.all := by
    unfold macFresh
    split
    · split <;> rfl
    · rfl
  unfold macDo
  split
  · split
    · exact h
    · rfl
  · rfl
theorem LeadI.putx {w y : World} {ga gx gb : Nat} {A B M : MacV} {X1 X2 X3 U : Tr} (h : LeadI w y ga gx gb A B X1 X2 X3) (hU : TreeAt y U) (hs : U.sh = M.sh) : OneI (rowSt y gx 0 (macCells M U.ptr)) ga A X1 ∧ OneI (rowSt y gx 0 (macCells M U.ptr)) gx M U ∧ OneI (rowSt y gx 0 (macCells M U.ptr)) gb B X3 ∧ Below w.heap.size w (rowSt y gx 0 (macCells M U.ptr)) := by
  obtain ⟨s1, s2, s3, s4⟩ := ma_st h.x.a M U.ptr
  obtain ⟨n1, n2, n3, n4, n5⟩ := h.ne
  exact ⟨⟨(s2 _ n2).trans h.a.a, s4 _ h.a.t, h.a.s⟩, ⟨s1, s4 _ hU, hs⟩, ⟨(s2 _ (Ne.symm n1)).trans h.b.a, s4 _ h.b.t, h.b.s⟩, s3 _ _ h.bel n4⟩
theorem OneI.away {y : World} {g gx : Nat} {A B : MacV} {X : Tr} {P : Option Addr} (h : OneI y g A X) (hg : gx < g) (hx : MacAt y gx B P) (M : MacV) (Q : Option Addr) : OneI (rowSt y gx 0 (macCells M Q)) g A X := by
  obtain ⟨s1, s2, s3, s4⟩ := ma_st hx M Q
  exact ⟨(s2 _ (by omega)).trans h.a, s4 _ h.t, h.s⟩
set_option maxRecDepth 100000 in
set_option maxHeartbeats 32000000 in
theorem leads_easy (al fi : Nat) (hal : al < 256) (hfi : fi < 256) (a1 : Option Addr) (l1 cap1 : Nat) (z1 : List CmdV) (a2 : Option Addr) (l2 cap2 : Nat) (z2 : List CmdV) (w : World) (h1 : CmdsAt w a1 l1 z1) (h2 : CmdsAt w a2 l2 z2) (he : ¬ (kgreatS z1 = false ∧ kgreatS z2 = false ∧ mayS fi al = true)) :
    Calls Try.prog 9 #[.int .u8 (al : Int), .int .u8 (fi : Int), .slice a1 l1 cap1, .slice a2 l2 cap2] w fun e w' => e = .returned (.bool true) ∧ Below w.heap.size w w' := by
  have hgr1 := kgreat_any a1 l1 cap1 z1 w h1
  have hgr2 := kgreat_any a2 l2 cap2 z2 w h2
  cases hg1 : kgreatS z1 with
  | true =>
    rw [hg1] at hgr1
    clear h1 h2 he hgr2
    have Hgr1 := Lib.hid hgr1; clear hgr1
    have Hgr2 := Hgr1
    go_enter Try.func9, Try.ntmps9
    go_wp2_with (first
      | ((with_reducible refine Hgr1.out.mono ?_); rintro e w' ⟨rfl, rfl⟩)
      | ((with_reducible refine Hgr2.out.mono ?_); rintro e w' ⟨rfl, rfl⟩)
      | ((with_reducible refine (dwakes_any _).mono ?_); rintro e wz ⟨rfl, hw⟩; have Hw := Lib.hid hw; clear hw))
    go_ret
    exact ⟨rfl, Hw.out⟩
  | false =>
  rw [hg1] at hgr1
  cases hg2 : kgreatS z2 with
  | true =>
    rw [hg2] at hgr2
    clear h1 h2 he
    have Hgr1 := Lib.hid hgr1; clear hgr1
    have Hgr2 := Lib.hid hgr2; clear hgr2
    go_enter Try.func9, Try.ntmps9
    go_wp2_with (first
      | ((with_reducible refine Hgr1.out.mono ?_); rintro e w' ⟨rfl, rfl⟩)
      | ((with_reducible refine Hgr2.out.mono ?_); rintro e w' ⟨rfl, rfl⟩)
      | ((with_reducible refine (dwakes_any _).mono ?_); rintro e wz ⟨rfl, hw⟩; have Hw := Lib.hid hw; clear hw))
    go_ret
    exact ⟨rfl, Hw.out⟩
  | false =>
  rw [hg2] at hgr2
  clear h1 h2
  have Hgr1 := Lib.hid hgr1; clear hgr1
  have Hgr2 := Lib.hid hgr2; clear hgr2
  have hnew := fun y : World => new_any al fi hal hfi y
  unfold newM macV at hnew
  have hm : mayS fi al = false := by
    cases h : mayS fi al with
    | false => rfl
    | true => exact absurd ⟨hg1, hg2, h⟩ he
  rw [hm] at hnew
  simp only [Bool.false_eq_true, if_false] at hnew
  rw [mac_eta] at hnew
  clear he
  have Hnew := Lib.hid hnew; clear hnew
  go_enter Try.func9, Try.ntmps9
  go_upto_region 4 with (first
    | ((with_reducible refine Hgr1.out.mono ?_); rintro e w' ⟨rfl, rfl⟩)
    | ((with_reducible refine Hgr2.out.mono ?_); rintro e w' ⟨rfl, rfl⟩)
    | ((with_reducible refine (Hnew.out _).mono ?_); rintro e wn ⟨rfl, hbn⟩; have HBn := Lib.hid hbn; clear hbn))
  change Code.wp _ _ _ _ (wn.alloc (.cells (macCells macNone none).toArray 69))
  have HB0 := Lib.hid (HBn.out.alloc HBn.out.size (.cells (macCells macNone none).toArray 69))
  generalize wn.alloc (.cells (macCells macNone none).toArray 69) = w0 at *
  clear Hnew HBn
  go_wp2_with ((with_reducible refine (dwakes_any _).mono ?_); rintro e wz ⟨rfl, hw⟩; have Hw := Lib.hid hw; clear hw)
  go_ret
  exact ⟨rfl, HB0.out.trans (Hw.out.mono HB0.out.size)⟩
set_option maxRecDepth 100000 in
set_option maxHeartbeats 32000000 in
theorem deltaLeads_any (al fi : Nat) (hal : al < 256) (hfi : fi < 256) (a1 : Option Addr) (l1 cap1 : Nat) (z1 : List CmdV) (a2 : Option Addr) (l2 cap2 : Nat) (z2 : List CmdV) (w : World) (h1 : CmdsAt w a1 l1 z1) (h2 : CmdsAt w a2 l2 z2) :
    Calls Try.prog 9 #[.int .u8 (al : Int), .int .u8 (fi : Int), .slice a1 l1 cap1, .slice a2 l2 cap2] w fun e w' => e = .returned (.bool true) ∧ Below w.heap.size w w' := by
  by_cases he : kgreatS z1 = false ∧ kgreatS z2 = false ∧ mayS fi al = true
  case neg => exact leads_easy al fi hal hfi a1 l1 cap1 z1 a2 l2 cap2 z2 w h1 h2 he
  obtain ⟨hg1, hg2, hm⟩ := he
  have hl2 := h2.hlen
  have hgr1 := kgreat_any a1 l1 cap1 z1 w h1
  have hgr2 := kgreat_any a2 l2 cap2 z2 w h2
  rw [hg1] at hgr1
  rw [hg2] at hgr2
  obtain ⟨hlen2, _⟩ := kgreat_ok hg2
  have hlen2' : l2 ≤ 100 := by omega
  have H1 := Lib.hid h1; clear h1
  have H2 := Lib.hid h2; clear h2
  have Hl2 := Lib.hid hl2; clear hl2 hlen2 hg1 hg2
  have Hgr1 := Lib.hid hgr1; clear hgr1
  have Hgr2 := Lib.hid hgr2; clear hgr2
  have hall0 := new_all hal hm
  have hsh0 : (newM al fi).sh = .nil := (newM_parts al fi).2
  have hnew := fun y : World => (show Calls Try.prog 31 #[.int .u8 (al : Int), .int .u8 (fi : Int)] y fun e w' => e = .returned (.tuple #[macV (newM al fi) none, .int .i64 0]) ∧ Below y.heap.size y w' by
    have k := new_any al fi hal hfi y
    rw [if_pos hm] at k
    exact k)
  generalize newM al fi = M0 at *
  unfold macV at hnew
  rw [mac_eta] at hnew
  have Hnew := Lib.hid hnew; clear hnew hm
  have Hall0 := Lib.hid (And.intro hall0 hsh0); clear hall0 hsh0
  go_enter Try.func9, Try.ntmps9
  go_upto_region 4 with (first
    | ((with_reducible refine Hgr1.out.mono ?_); rintro e w' ⟨rfl, rfl⟩)
    | ((with_reducible refine Hgr2.out.mono ?_); rintro e w' ⟨rfl, rfl⟩)
    | ((with_reducible refine (Hnew.out _).mono ?_); rintro e wn ⟨rfl, hbn⟩; have HBn := Lib.hid hbn; clear hbn))
  change Code.wp _ _ _ _ (wn.alloc (.cells (macCells M0 none).toArray 69))
  have HSm := Lib.hid (show MacAt (wn.alloc (.cells (macCells M0 none).toArray 69)) wn.heap.size M0 none from heap_alloc_new _ _)
  have HB0 := Lib.hid (HBn.out.alloc HBn.out.size (.cells (macCells M0 none).toArray 69))
  clear Hnew HBn Hgr1 Hgr2
  generalize wn.alloc (.cells (macCells M0 none).toArray 69) = w0 at *
  generalize wn.heap.size = gm at *
  have hfo := fold_any M0 .nil a1 l1 cap1 z1 w0 Hall0.out.1.fit.ok trivial Hall0.out.2.symm (H1.out.below HB0.out)
  rw [show (Tr.nil).ptr = none from rfl] at hfo
  unfold macV at hfo
  rw [mac_eta M0 none] at hfo
  have hAall := macsDo_all z1 Hall0.out.1
  have hAal : (macsDo M0 z1).all < 128 := hAall.fit.all
  generalize macsDo M0 z1 = A at *
  have Hfo := Lib.hid hfo; clear hfo
  have HA := Lib.hid hAall; clear hAall hAal Hall0
  obtain ⟨⟨m0, m1, m14⟩, ⟨m2, m3, m4⟩, ⟨m5, m6, m7⟩, ⟨m8, m9, m10⟩, ⟨m11, m12, m13⟩⟩ := HSm.out.cells
  clear HSm
  go_upto_region 7 with ((with_reducible refine Hfo.out.mono ?_); rintro e w1 ⟨X1, rfl, hX, hXs, hb⟩; have HX := Lib.hid (And.intro hX (And.intro hXs hb)); clear hX hXs hb; rw [mac_eta A X1.ptr])
  change Code.wp _ _ _ _ (w1.alloc (.cells (macCells A X1.ptr).toArray 69))
  clear m0 m1 m2 m3 m4 m5 m6 m7 m8 m9 m10 m11 m12 m13 m14 Hfo
  have Hb2 := Lib.hid (show Below w.heap.size w (w1.alloc (.cells (macCells A X1.ptr).toArray 69)) from (HB0.out.trans (HX.out.2.2.mono HB0.out.size)).alloc (Nat.le_trans HB0.out.size HX.out.2.2.size) _)
  have HI2 := Lib.hid (show OneI (w1.alloc (.cells (macCells A X1.ptr).toArray 69)) w1.heap.size A X1 from ⟨heap_alloc_new _ _, HX.out.1.below ((Below.refl _ _).alloc (Nat.le_refl _) _), HX.out.2.1⟩)
  have Hlo := Lib.hid (Nat.le_trans HB0.out.size HX.out.2.2.size)
  clear HX HB0
  generalize w1.alloc (.cells (macCells A X1.ptr).toArray 69) = w2 at *
  generalize w1.heap.size = ga at *
  obtain ⟨P1, hP1⟩ : ∃ P, X1.ptr = P := ⟨_, rfl⟩
  obtain ⟨⟨m0, m1, m14⟩, ⟨m2, m3, m4⟩, ⟨m5, m6, m7⟩, ⟨m8, m9, m10⟩, ⟨m11, m12, m13⟩⟩ := HI2.out.a.cells
  rw [hP1] at m14
  go_upto_region 8 with fail
  change Code.wp _ _ _ _ (w2.alloc (.cells (macCells A P1).toArray 69))
  rw [← hP1]
  clear m0 m1 m2 m3 m4 m5 m6 m7 m8 m9 m10 m11 m12 m13 m14
  have hba2 := (Below.refl w2.heap.size w2).alloc (Nat.le_refl _) (.cells (macCells A X1.ptr).toArray 69)
  have HI3 := Lib.hid (HI2.out.below hba2)
  have HI3x := Lib.hid (show OneI (w2.alloc (.cells (macCells A X1.ptr).toArray 69)) w2.heap.size A X1 from ⟨heap_alloc_new _ _, HI2.out.t.below hba2, HI2.out.s⟩)
  have Hb3 := Lib.hid (Hb2.out.trans (hba2.mono Hb2.out.size))
  have Hlt3 := Lib.hid (show ga < w2.heap.size from HI2.out.a.lt)
  have Hlo3 := Lib.hid Hb2.out.size
  clear hba2 HI2 Hb2 hP1
  generalize w2.alloc (.cells (macCells A X1.ptr).toArray 69) = w3 at *
  generalize w2.heap.size = gx at *
  obtain ⟨P1, hP1⟩ : ∃ P, X1.ptr = P := ⟨_, rfl⟩
  obtain ⟨⟨m0, m1, m14⟩, ⟨m2, m3, m4⟩, ⟨m5, m6, m7⟩, ⟨m8, m9, m10⟩, ⟨m11, m12, m13⟩⟩ := HI3.out.a.cells
  rw [hP1] at m14
  go_upto_region 9 with fail
  change Code.wp _ _ _ _ (w3.alloc (.cells (macCells A P1).toArray 69))
  rw [← hP1]
  clear m0 m1 m2 m3 m4 m5 m6 m7 m8 m9 m10 m11 m12 m13 m14
  have hba3 := (Below.refl w3.heap.size w3).alloc (Nat.le_refl _) (.cells (macCells A X1.ptr).toArray 69)
  have HL := Lib.hid (show LeadI w (w3.alloc (.cells (macCells A X1.ptr).toArray 69)) ga gx w3.heap.size A A X1 X1 X1 from
    ⟨HI3.out.below hba3, HI3x.out.below hba3, ⟨heap_alloc_new _ _, HI3.out.t.below hba3, HI3.out.s⟩, Hb3.out.trans (hba3.mono Hb3.out.size), by have h1 := HI3x.out.a.lt; have h2 := Hlt3.out; have h3 := Hlo3.out; have h4 := Hb3.out.size; exact ⟨by omega, by omega, by omega, h3, h4⟩⟩)
  clear hba3 HI3 HI3x Hb3 Hlt3 Hlo3 Hlo hP1
  generalize w3.alloc (.cells (macCells A X1.ptr).toArray 69) = w4 at *
  generalize w3.heap.size = gb at *
  go_wp2_with fail
  go_loopw [14] (fun s14 wr => ∃ (i : Nat) (B : MacV) (X Y Z : Tr), i ≤ l2 ∧ s14 = .int .i64 (i : Int) ∧ LeadI w wr ga gx gb A B X Y Z ∧ MacAll B ∧ A.all = B.all) (fun s14 _ => l2 - (intOf s14).toNat)
  case atStart => exact ⟨0, A, X1, X1, X1, by omega, rfl, HL.out, HA.out, rfl⟩
  case round =>
    obtain ⟨i, B, X, Y, Z, hi, rfl, hL, hB, hall⟩ := hrel
    clear HL
    have HL := Lib.hid hL; clear hL
    have HB := Lib.hid (And.intro hB hall); clear hB hall
    by_cases hlt : i < l2
    · have hlt' : (i : Int) < (l2 : Int) := by omega
      obtain ⟨b, o, rfl, hbl, hcs⟩ := cmd_stay (H2.out.below HL.out.bel) hlt
      obtain ⟨c, hc⟩ : ∃ c, z2.getD i default = c := ⟨_, rfl⟩
      rw [hc] at hcs
      have Hcs := Lib.hid hcs; clear hcs hc hbl
      obtain ⟨⟨M2, code, text, fresh⟩, hO⟩ : ∃ r, macDo B c = r := ⟨_, rfl⟩
      have HO := Lib.hid hO
      have HM2 := Lib.hid (show MacAll M2 ∧ B.all = M2.all by
        have h := macDo_all HB.out.1 c
        have k := macDo_nodes B c
        rw [hO] at h k
        exact ⟨h, k.symm⟩)
      clear hO
      have hsucc := tsucc (n := i) (by omega)
      have Hlim := Lib.hid (show B.all < 256 ∧ Z.cnt ≤ 4611686018427387903 from ⟨by have := HB.out.1.fit.all; omega, by rw [sh_cnt, HL.out.b.s]; have := HB.out.1.fit.kv.num; omega⟩)
      go_upto_region 12 with fail
      refine lead_reg12 wr gb B Z Z.ptr b o l2 cap2 i c M2 code text fresh (fun _ _ d _ _ h => by cases d <;> exact h) (fun _ _ d _ _ h => by cases d <;> exact h) (Lib.hid HL.out.b.a) (Lib.hid HL.out.b.t) (Lib.hid ⟨rfl, HL.out.b.s⟩) Hlim HO hlt' Hcs _ _ _ _ _ _ _ _ _ _ _ _ _ _ _ _ _ _ _ _ _ _ _ _ _ _ _ _ _ _ _ _ _ _ _ _ _ _ _ _ _ _ _ _ _ _ _ _ _ _ _ _ _ _ _ _ _ _ _ _ _ _ _ _ _ _ _ _ _ _ _ _ _ _ _ _ _ _ _ _ _ _ _ _ _ _ _ _ _ _ _ _ _ _ _ _ _ _ _ _ _ _ _ _ _ _ _ _ _ _ _ _ _ _ _ _ _ _ _ _ _ _ _ _ _ _ _ _ _ _ _ _ _ _ _ _ _ _ _ _ _ _ _ _ _ _ _ _ _ _ _ _ _ (Lib.hid ?_)
      intro s57 s58 s59 s60 s61 s62 s63 s64 s65 s66 gs gr N P2 wa hE1
      have hptr := hE1.ptr
      subst hptr
      have HL2 := Lib.hid (HL.out.below hE1.bel)
      have HN := Lib.hid (show OneI wa gs M2 N from ⟨hE1.st, hE1.tr, hE1.sh⟩)
      have Hgs := Lib.hid (Nat.lt_of_lt_of_le HL.out.x.a.lt hE1.lo)
      clear HL hE1 Hcs Hlim HO
      go_upto_region 13 with fail
      refine lead_reg13 wa gb gs B M2 Z N (Lib.hid (HL2.out.b.two HN.out)) (Lib.hid ⟨HB.out.1, HM2.out.1, HM2.out.2⟩) _ _ _ _ _ _ _ _ _ _ _ _ _ _ _ _ _ _ _ _ _ _ _ _ _ _ _ _ _ _ _ _ _ _ _ _ _ _ _ _ _ _ _ _ _ _ _ _ _ _ _ _ _ _ _ _ _ _ _ _ _ _ _ _ _ _ _ _ _ _ _ _ _ _ _ _ _ _ _ _ _ _ _ _ _ _ _ _ _ _ _ _ _ _ _ _ _ _ _ _ _ _ _ _ _ _ _ _ _ _ _ _ _ _ _ _ _ _ _ _ _ _ _ _ _ _ _ _ _ _ _ _ _ _ _ _ _ _ _ _ _ _ _ _ _ _ _ _ _ _ _ _ _ _ (Lib.hid ?_)
      intro s67 s68 s69 s70 wb hb
      have HL3 := Lib.hid (HL2.out.below hb)
      have HN3 := Lib.hid (HN.out.below hb)
      clear HL2 HN hb
      go_upto_region 14 with fail
      refine lead_reg14 wb gx B M2 Y (Lib.hid HL3.out.x) (Lib.hid ⟨HB.out.1, HM2.out.1, HM2.out.2⟩) _ _ _ _ _ _ _ _ _ _ _ _ _ _ _ _ _ _ _ _ _ _ _ _ _ _ _ _ _ _ _ _ _ _ _ _ _ _ _ _ _ _ _ _ _ _ _ _ _ _ _ _ _ _ _ _ _ _ _ _ _ _ _ _ _ _ _ _ _ _ _ _ _ _ _ _ _ _ _ _ _ _ _ _ _ _ _ _ _ _ _ _ _ _ _ _ _ _ _ _ _ _ _ _ _ _ _ _ _ _ _ _ _ _ _ _ _ _ _ _ _ _ _ _ _ _ _ _ _ _ _ _ _ _ _ _ _ _ _ _ _ _ _ _ _ _ _ _ _ _ _ _ _ _ (Lib.hid ?_)
      intro s73 s74 s75 s76 s77 s78 gy U wc hU
      have HL4 := Lib.hid (HL3.out.below hU.2.1)
      have HN4 := Lib.hid (HN3.out.below hU.2.1)
      have HU4 := Lib.hid hU.1
      clear HL3 HN3 hU
      go_upto_region 15 with fail
      refine lead_reg15 wc gy gs M2 U N (fun _ _ d _ _ h => by cases d <;> exact h) (Lib.hid (HU4.out.two HN4.out)) (Lib.hid (macFit_by HM2.out.1.fit)) _ _ _ _ _ _ _ _ _ _ _ _ _ _ _ _ _ _ _ _ _ _ _ _ _ _ _ _ _ _ _ _ _ _ _ _ _ _ _ _ _ _ _ _ _ _ _ _ _ _ _ _ _ _ _ _ _ _ _ _ _ _ _ _ _ _ _ _ _ _ _ _ _ _ _ _ _ _ _ _ _ _ _ _ _ _ _ _ _ _ _ _ _ _ _ _ _ _ _ _ _ _ _ _ _ _ _ _ _ _ _ _ _ _ _ _ _ _ _ _ _ _ _ _ _ _ _ _ _ _ _ _ _ _ _ _ _ _ _ _ _ _ _ _ _ _ _ _ _ _ _ _ (Lib.hid ?_)
      intro s79 s80 s81 s82 s83 s84 s85 s86 s87 s88 s89 s90 wd hb
      have HL5 := Lib.hid (HL4.out.below hb)
      have HN5 := Lib.hid (HN4.out.below hb)
      have HU5 := Lib.hid (HU4.out.below hb)
      clear HL4 HN4 HU4 hb
      go_upto_region 17 with fail
      have Hns := Lib.hid (show gx < gs from Hgs.out)
      refine lead_reg17 wd gy gx M2 B U.ptr Y.ptr (Lib.hid HU5.out.a) (Lib.hid HL5.out.x.a) _ _ _ _ _ _ _ _ _ _ _ _ _ _ _ _ _ _ _ _ _ _ _ _ _ _ _ _ _ _ _ _ _ _ _ _ _ _ _ _ _ _ _ _ _ _ _ _ _ _ _ _ _ _ _ _ _ _ _ _ _ _ _ _ _ _ _ _ _ _ _ _ _ _ _ _ _ _ _ _ _ _ _ _ _ _ _ _ _ _ _ _ _ _ _ _ _ _ _ _ _ _ _ _ _ _ _ _ _ _ _ _ _ _ _ _ _ _ _ _ _ _ _ _ _ _ _ _ _ _ _ _ _ _ _ _ _ _ _ _ _ _ _ _ _ _ _ _ _ _ _ _ _ _ (Lib.hid ?_)
      intro s92 we hwe
      have hp := HL5.out.putx HU5.out.t HU5.out.s
      have hn := HN5.out.away Hns.out HL5.out.x.a M2 U.ptr
      rw [← hwe] at hp hn
      have HP := Lib.hid hp; clear hp
      have HN6 := Lib.hid hn; clear hn
      have Hne := Lib.hid HL5.out.ne
      clear HU5 HN5 HL5 hwe
      go_upto_region 18 with fail
      refine lead_reg18 we gs gb M2 B N.ptr Z.ptr (Lib.hid HN6.out.a) (Lib.hid HP.out.2.2.1.a) _ _ _ _ _ _ _ _ _ _ _ _ _ _ _ _ _ _ _ _ _ _ _ _ _ _ _ _ _ _ _ _ _ _ _ _ _ _ _ _ _ _ _ _ _ _ _ _ _ _ _ _ _ _ _ _ _ _ _ _ _ _ _ _ _ _ _ _ _ _ _ _ _ _ _ _ _ _ _ _ _ _ _ _ _ _ _ _ _ _ _ _ _ _ _ _ _ _ _ _ _ _ _ _ _ _ _ _ _ _ _ _ _ _ _ _ _ _ _ _ _ _ _ _ _ _ _ _ _ _ _ _ _ _ _ _ _ _ _ _ _ _ _ _ _ _ _ _ _ _ _ _ _ _ (Lib.hid ?_)
      intro s93 wf hwf
      have hL : LeadI w wf ga gx gb A M2 X U N := by
        rw [hwf]
        obtain ⟨s1, s2, s3, s4⟩ := ma_st HP.out.2.2.1.a M2 N.ptr
        obtain ⟨n1, n2, n3, n4, n5⟩ := Hne.out
        obtain ⟨p1, p2, p3, p4⟩ := HP.out
        exact ⟨⟨(s2 _ n3).trans p1.a, s4 _ p1.t, p1.s⟩, ⟨(s2 _ n1).trans p2.a, s4 _ p2.t, p2.s⟩, ⟨s1, s4 _ HN6.out.t, HN6.out.s⟩, s3 _ _ p4 n5, n1, n2, n3, n4, n5⟩
      have HL := Lib.hid hL; clear hL HP HN6 Hne hwf
      go_wp2_with fail
      go_roundw
      case rel => exact ⟨i + 1, M2, X, U, N, hlt, rfl, HL.out, HM2.out.1, HB.out.2.trans HM2.out.2⟩
      case measure => simp [intOf]; omega
    · have hlt' : ¬ (i : Int) < (l2 : Int) := by omega
      clear H2 Hl2
      go_upto_region 19 with fail
      refine lead_reg19 wr ga gb A B X Z (Lib.hid (HL.out.a.two HL.out.b)) (Lib.hid ⟨HA.out, HB.out.1, HB.out.2⟩) _ _ _ _ _ _ _ _ _ _ _ _ _ _ _ _ _ _ _ _ _ _ _ _ _ _ _ _ _ _ _ _ _ _ _ _ _ _ _ _ _ _ _ _ _ _ _ _ _ _ _ _ _ _ _ _ _ _ _ _ _ _ _ _ _ _ _ _ _ _ _ _ _ _ _ _ _ _ _ _ _ _ _ _ _ _ _ _ _ _ _ _ _ _ _ _ _ _ _ _ _ _ _ _ _ _ _ _ _ _ _ _ _ _ _ _ _ _ _ _ _ _ _ _ _ _ _ _ _ _ _ _ _ _ _ _ _ _ _ _ _ _ _ _ _ _ _ _ _ _ _ _ _ _ (Lib.hid ?_)
      intro s94 s95 s96 s97 wa hb
      have HL2 := Lib.hid (HL.out.below hb)
      clear HL hb
      go_upto_region 20 with fail
      refine lead_reg20 wa gb ga B A Z X (Lib.hid (HL2.out.b.two HL2.out.a)) (Lib.hid ⟨HB.out.1, HA.out, HB.out.2.symm⟩) _ _ _ _ _ _ _ _ _ _ _ _ _ _ _ _ _ _ _ _ _ _ _ _ _ _ _ _ _ _ _ _ _ _ _ _ _ _ _ _ _ _ _ _ _ _ _ _ _ _ _ _ _ _ _ _ _ _ _ _ _ _ _ _ _ _ _ _ _ _ _ _ _ _ _ _ _ _ _ _ _ _ _ _ _ _ _ _ _ _ _ _ _ _ _ _ _ _ _ _ _ _ _ _ _ _ _ _ _ _ _ _ _ _ _ _ _ _ _ _ _ _ _ _ _ _ _ _ _ _ _ _ _ _ _ _ _ _ _ _ _ _ _ _ _ _ _ _ _ _ _ _ _ _ (Lib.hid ?_)
      intro s100 s101 s102 s103 wb hb
      have HL3 := Lib.hid (HL2.out.below hb)
      clear HL2 hb
      go_upto_region 21 with fail
      refine lead_reg21 wb ga A B X (Lib.hid HL3.out.a) (Lib.hid ⟨HA.out, HB.out.1, HB.out.2⟩) _ _ _ _ _ _ _ _ _ _ _ _ _ _ _ _ _ _ _ _ _ _ _ _ _ _ _ _ _ _ _ _ _ _ _ _ _ _ _ _ _ _ _ _ _ _ _ _ _ _ _ _ _ _ _ _ _ _ _ _ _ _ _ _ _ _ _ _ _ _ _ _ _ _ _ _ _ _ _ _ _ _ _ _ _ _ _ _ _ _ _ _ _ _ _ _ _ _ _ _ _ _ _ _ _ _ _ _ _ _ _ _ _ _ _ _ _ _ _ _ _ _ _ _ _ _ _ _ _ _ _ _ _ _ _ _ _ _ _ _ _ _ _ _ _ _ _ _ _ _ _ _ _ _ (Lib.hid ?_)
      intro s106 s107 s108 s109 s110 s111 gy U wc hU
      have HL4 := Lib.hid (HL3.out.below hU.2.1)
      have HU4 := Lib.hid hU.1
      clear HL3 hU
      go_upto_region 22 with fail
      refine lead_reg22 wc gb B A Z (Lib.hid HL4.out.b) (Lib.hid ⟨HB.out.1, HA.out, HB.out.2.symm⟩) _ _ _ _ _ _ _ _ _ _ _ _ _ _ _ _ _ _ _ _ _ _ _ _ _ _ _ _ _ _ _ _ _ _ _ _ _ _ _ _ _ _ _ _ _ _ _ _ _ _ _ _ _ _ _ _ _ _ _ _ _ _ _ _ _ _ _ _ _ _ _ _ _ _ _ _ _ _ _ _ _ _ _ _ _ _ _ _ _ _ _ _ _ _ _ _ _ _ _ _ _ _ _ _ _ _ _ _ _ _ _ _ _ _ _ _ _ _ _ _ _ _ _ _ _ _ _ _ _ _ _ _ _ _ _ _ _ _ _ _ _ _ _ _ _ _ _ _ _ _ _ _ _ _ (Lib.hid ?_)
      intro s112 s113 s114 s115 s116 s117 gz V wd hV
      have HL5 := Lib.hid (HL4.out.below hV.2.1)
      have HU5 := Lib.hid (HU4.out.below hV.2.1)
      have HV5 := Lib.hid hV.1
      clear HL4 HU4 hV
      go_upto_region 23 with fail
      refine lead_reg23 wd gy gz ga gx gb A B U Z V X Y (fun _ _ d _ _ h => by cases d <;> exact h) (Lib.hid (HU5.out.two HL5.out.b)) (Lib.hid (HV5.out.two HL5.out.a)) (Lib.hid HL5.out.x) (Lib.hid ⟨macFit_by HA.out.fit, macFit_by HB.out.1.fit⟩) _ _ _ _ _ _ _ _ _ _ _ _ _ _ _ _ _ _ _ _ _ _ _ _ _ _ _ _ _ _ _ _ _ _ _ _ _ _ _ _ _ _ _ _ _ _ _ _ _ _ _ _ _ _ _ _ _ _ _ _ _ _ _ _ _ _ _ _ _ _ _ _ _ _ _ _ _ _ _ _ _ _ _ _ _ _ _ _ _ _ _ _ _ _ _ _ _ _ _ _ _ _ _ _ _ _ _ _ _ _ _ _ _ _ _ _ _ _ _ _ _ _ _ _ _ _ _ _ _ _ _ _ _ _ _ _ _ _ _ _ _ _ _ _ _ _ _ (Lib.hid ?_)
      intro s118 s119 s120 s121 s122 s123 s124 s125 s126 s127 s128 s129 s130 s131 s132 s133 s134 s135 s136 s137 s138 s139 s140 s141 s142 s143 s144 s145 s146 s147 s148 s149 s150 s151 s152 s153 s154 we hb
      have hbel := HL5.out.bel.trans (hb.mono HL5.out.bel.size)
      have Hbel := Lib.hid hbel; clear hbel HL5 HU5 HV5 hb
      go_wp2_with fail
      go_ret
      exact ⟨rfl, Hbel.out⟩
end Go.Proofs.Ytkngadbeflepoaa
namespace Go.Proofs.Ytkngadbeflepoaa
open Go.RowKit
theorem deltaLeads_row (n0 n1 : Int) (a1 : Option Addr) (l1 cap1 : Nat) (z1 : List CmdV) (a2 : Option Addr) (l2 cap2 : Nat) (z2 : List CmdV) {w : World} (f0 : (Lit.int .u8 n0).wf = true) (f1 : (Lit.int .u8 n1).wf = true) (h1 : CmdsAt w a1 l1 z1) (h2 : CmdsAt w a2 l2 z2) (_W : World) :
    Calls Try.prog 9 #[.int .u8 n0, .int .u8 n1, .slice a1 l1 cap1, .slice a2 l2 cap2] w fun e w' => e = .returned (.bool true) ∧ Below w.heap.size w w' := by
  obtain ⟨x0, rfl⟩ := tr_u8 f0
  obtain ⟨x1, rfl⟩ := tr_u8 f1
  exact deltaLeads_any x0.toNat x1.toNat x0.isLt x1.isLt a1 l1 cap1 z1 a2 l2 cap2 z2 w h1 h2
end Go.Proofs.Ytkngadbeflepoaa
