/- The law DeltaTells: deltas of any two machines. No condition. -/
import Derived.Deep.DeepCutAuto
import Derived.Test.YtkngadbeflepoaaGreatZDeltaTells48
import Derived.Test.YtkngadbeflepoaaGreatZDeltaTells49
import Derived.Test.YtkngadbeflepoaaGreatZDeltaTells11
namespace Go.Proofs.YtkngadbeflepoaaGreat
open Go.RowKit
set_option maxRecDepth 100000 in
set_option maxHeartbeats 32000000 in
theorem deltaTells_any (al fi ot : Nat) (hal : al < 256) (hfi : fi < 256) (hot : ot < 256) (a1 : Option Addr) (l1 cap1 : Nat) (z1 : List CmdV) (a2 : Option Addr) (l2 cap2 : Nat) (z2 : List CmdV) (w : World) (h1 : CmdsAt w a1 l1 z1) (h2 : CmdsAt w a2 l2 z2) :
    Calls Tryz.prog 3 #[.int .u8 (al : Int), .int .u8 (fi : Int), .slice a1 l1 cap1, .slice a2 l2 cap2, .int .u8 (ot : Int)] w fun e w' => e = .returned (.bool true) ∧ Below w.heap.size w w' := by
  have hgr1 := kgreat_any a1 l1 cap1 z1 w h1
  have hgr2 := kgreat_any a2 l2 cap2 z2 w h2
  cases hg1 : kgreatS z1 with
  | true =>
    rw [hg1] at hgr1
    clear h1 h2 hgr2
    have Hgr1 := Lib.hid hgr1; clear hgr1
    have Hgr2 := Hgr1
    go_enter Tryz.func3, Tryz.ntmps3
    go_wp2_with (first
      | ((with_reducible refine Hgr1.out.mono ?_); rintro e w' ⟨rfl, rfl⟩)
      | ((with_reducible refine Hgr2.out.mono ?_); rintro e w' ⟨rfl, rfl⟩)
      | ((with_reducible refine (dwakes_any _).mono ?_); rintro e wz ⟨rfl, hw⟩; have Hw := Lib.hid hw; clear hw))
    go_ret
    exact ⟨rfl, Hw.out⟩
  | false =>
  rw [hg1] at hgr1
  cases hg2 : kgreatS z2 with
  | true =>
    rw [hg2] at hgr2
    clear h1 h2
    have Hgr1 := Lib.hid hgr1; clear hgr1
    have Hgr2 := Lib.hid hgr2; clear hgr2
    go_enter Tryz.func3, Tryz.ntmps3
    go_wp2_with (first
      | ((with_reducible refine Hgr1.out.mono ?_); rintro e w' ⟨rfl, rfl⟩)
      | ((with_reducible refine Hgr2.out.mono ?_); rintro e w' ⟨rfl, rfl⟩)
      | ((with_reducible refine (dwakes_any _).mono ?_); rintro e wz ⟨rfl, hw⟩; have Hw := Lib.hid hw; clear hw))
    go_ret
    exact ⟨rfl, Hw.out⟩
  | false =>
  rw [hg2] at hgr2
  have hl1 := h1.hlen
  have hl2 := h2.hlen
  obtain ⟨hlen1, _⟩ := kgreat_ok hg1
  obtain ⟨hlen2, _⟩ := kgreat_ok hg2
  have hn1 : l1 ≤ 1000 := by omega
  have hn2 : l2 ≤ 1000 := by omega
  clear hg1 hg2 hl1 hl2 hlen1 hlen2
  have H1 := Lib.hid h1; clear h1
  have H2 := Lib.hid h2; clear h2
  have Hgr1 := Lib.hid hgr1; clear hgr1
  have Hgr2 := Lib.hid hgr2; clear hgr2
  go_enter Tryz.func3, Tryz.ntmps3
  go_upto_region 3 with (first
    | ((with_reducible refine Hgr1.out.mono ?_); rintro e w' ⟨rfl, rfl⟩)
    | ((with_reducible refine Hgr2.out.mono ?_); rintro e w' ⟨rfl, rfl⟩))
  clear Hgr1 Hgr2
  have hww : Hid (∀ q : Nat, True) := Lib.hid (fun _ => trivial)
  refine tells_reg3 _ al fi a1 l1 cap1 z1 hal hfi hn1 H1 _ _ _ _ _ _ _ _ _ _ _ _ _ _ _ _ _ _ _ _ _ _ _ _ _ _ _ _ _ _ _ _ _ _ _ _ _ _ _ _ _ _ _ _ _ _ _ _ _ _ _ _ _ _ _ _ _ _ _ _ _ _ _ _ _ _ _ _ _ _ _ _ _ _ _ _ _ _ _ _ _ _ _ _ _ _ _ _ _ _ _ _ _ _ _ _ _ _ _ _ _ _ _ (Lib.hid ?_)
  intro s31 s32 s33 s34 s35 s36 s37 gm1 gr1 A X r w1 hA
  have HA := Lib.hid hA; clear hA hww
  go_upto_region 4 with fail
  refine tells_reg4 w1 al fi a2 l2 cap2 z2 hal hfi hn2 (Lib.hid (H2.out.below HA.out.2.2.2)) _ _ _ _ _ _ _ _ _ _ _ _ _ _ _ _ _ _ _ _ _ _ _ _ _ _ _ _ _ _ _ _ _ _ _ _ _ _ _ _ _ _ _ _ _ _ _ _ _ _ _ _ _ _ _ _ _ _ _ _ _ _ _ _ _ _ _ _ _ _ _ _ _ _ _ _ _ _ _ _ _ _ _ _ _ _ _ _ _ _ _ _ _ _ _ _ _ _ _ _ _ _ _ (Lib.hid ?_)
  intro s39 s40 s41 s42 s43 s44 s45 gm2 gr2 B Y s w2 hB
  have hb2 := hB.2.2.2
  have HA2 := Lib.hid (show MacAt w2 gm1 A X.ptr ∧ RefRow w2 gr1 r ∧ BgOut al fi z1 A X r w2 from ⟨HA.out.1.below hb2, HA.out.2.1.below hb2, HA.out.2.2.1.below hb2⟩)
  have HB2 := Lib.hid (show MacAt w2 gm2 B Y.ptr ∧ RefRow w2 gr2 s ∧ BgOut al fi z2 B Y s w2 from ⟨hB.1, hB.2.1, hB.2.2.1⟩)
  have Hbel2 := Lib.hid (HA.out.2.2.2.trans (hb2.mono HA.out.2.2.2.size))
  clear HA hB hb2
  cases hm : mayS fi al with
  | false =>
    clear HA2 HB2 H1 H2
    go_wp2_with ((with_reducible refine (dwakes_any _).mono ?_); rintro e wz ⟨rfl, hw⟩; have Hw := Lib.hid hw; clear hw)
    go_ret
    exact ⟨rfl, Hbel2.out.trans (Hw.out.mono Hbel2.out.size)⟩
  | true =>
  obtain ⟨hAe, zA, hAr⟩ := HA2.out.2.2.is hm
  obtain ⟨hBe, zB, hBr⟩ := HB2.out.2.2.is hm
  have hfA : MacFit A := by rw [hAe]; exact macsDo_fit z1 (macFit_new al fi)
  have hfB : MacFit B := by rw [hBe]; exact macsDo_fit z2 (macFit_new al fi)
  have HAB := Lib.hid (show TwoI w2 gm1 gm2 A B X Y from ⟨HA2.out.1, HB2.out.1, HA2.out.2.2.t, HB2.out.2.2.t, HA2.out.2.2.s, HB2.out.2.2.s⟩)
  have HR := Lib.hid (show (RefRow w2 gr1 r ∧ RefAt w2 r A zA) ∧ RefRow w2 gr2 s ∧ RefAt w2 s B zB from ⟨⟨HA2.out.2.1, hAr⟩, HB2.out.2.1, hBr⟩)
  have Hf := Lib.hid (And.intro hfA hfB)
  clear hAe hAr hBe hBr hfA hfB HA2 HB2 hm
  go_upto_region 7 with fail
  refine tells_reg7 w2 gm1 gm2 A B X Y HAB Hf _ _ _ _ _ _ _ _ _ _ _ _ _ _ _ _ _ _ _ _ _ _ _ _ _ _ _ _ _ _ _ _ _ _ _ _ _ _ _ _ _ _ _ _ _ _ _ _ _ _ _ _ _ _ _ _ _ _ _ _ _ _ _ _ _ _ _ _ _ _ _ _ _ _ _ _ _ _ _ _ _ _ _ _ _ _ _ _ _ _ _ _ _ _ _ _ _ _ _ _ _ _ _ _ (Lib.hid ?_)
  intro s54 s55 s56 s57 w3 hb3
  have HAB3 := Lib.hid (HAB.out.below hb3)
  have HR3 := Lib.hid (show (RefRow w3 gr1 r ∧ RefAt w3 r A zA) ∧ RefRow w3 gr2 s ∧ RefAt w3 s B zB from ⟨⟨HR.out.1.1.below hb3, HR.out.1.2.below hb3⟩, HR.out.2.1.below hb3, HR.out.2.2.below hb3⟩)
  have Hbel3 := Lib.hid (Hbel2.out.trans (hb3.mono Hbel2.out.size))
  clear HAB HR Hbel2 hb3
  go_upto_region 8 with fail
  refine tells_reg8 w3 gr1 gr2 A B r s zA zB HR3 Hf _ _ _ _ _ _ _ _ _ _ _ _ _ _ _ _ _ _ _ _ _ _ _ _ _ _ _ _ _ _ _ _ _ _ _ _ _ _ _ _ _ _ _ _ _ _ _ _ _ _ _ _ _ _ _ _ _ _ _ _ _ _ _ _ _ _ _ _ _ _ _ _ _ _ _ _ _ _ _ _ _ _ _ _ _ _ _ _ _ _ _ _ _ _ _ _ _ _ _ _ _ _ _ _ (Lib.hid ?_)
  intro s60 s61 s62 s63 w4 hb4
  have HA4 := Lib.hid (show OneI w4 gm1 A X ∧ RefRow w4 gr1 r ∧ RefAt w4 r A zA from ⟨⟨HAB3.out.a.below hb4, HAB3.out.ta.below hb4, HAB3.out.sa⟩, HR3.out.1.1.below hb4, HR3.out.1.2.below hb4⟩)
  have Hbel4 := Lib.hid (Hbel3.out.trans (hb4.mono Hbel3.out.size))
  clear HAB3 HR3 Hbel3 hb4
  go_upto_region 9 with fail
  refine tells_reg9 w4 ot a2 l2 cap2 z2 hot hn2 (Lib.hid (H2.out.below Hbel4.out)) _ _ _ _ _ _ _ _ _ _ _ _ _ _ _ _ _ _ _ _ _ _ _ _ _ _ _ _ _ _ _ _ _ _ _ _ _ _ _ _ _ _ _ _ _ _ _ _ _ _ _ _ _ _ _ _ _ _ _ _ _ _ _ _ _ _ _ _ _ _ _ _ _ _ _ _ _ _ _ _ _ _ _ _ _ _ _ _ _ _ _ _ _ _ _ _ _ _ _ _ _ _ _ _ (Lib.hid ?_)
  intro s66 s67 s68 s69 s70 s71 s72 gm3 gr3 C Z t w5 hC
  have HA5 := Lib.hid (show OneI w5 gm1 A X ∧ RefRow w5 gr1 r ∧ RefAt w5 r A zA from ⟨HA4.out.1.below hC.2.2.2, HA4.out.2.1.below hC.2.2.2, HA4.out.2.2.below hC.2.2.2⟩)
  have Hbel5 := Lib.hid (Hbel4.out.trans (hC.2.2.2.mono Hbel4.out.size))
  have HC5 := Lib.hid (show MacAt w5 gm3 C Z.ptr ∧ RefRow w5 gr3 t ∧ BgOut ot ot z2 C Z t w5 from ⟨hC.1, hC.2.1, hC.2.2.1⟩)
  clear HA4 Hbel4 hC
  cases hm : mayS ot ot with
  | false =>
    clear HC5 HA5 H1 H2
    go_wp2_with ((with_reducible refine (dwakes_any _).mono ?_); rintro e wz ⟨rfl, hw⟩; have Hw := Lib.hid hw; clear hw)
    go_ret
    exact ⟨rfl, Hbel5.out.trans (Hw.out.mono Hbel5.out.size)⟩
  | true =>
  obtain ⟨hCe, zC, hCr⟩ := HC5.out.2.2.is hm
  have hfC : MacFit C := by rw [hCe]; exact macsDo_fit z2 (macFit_new ot ot)
  have HAC := Lib.hid (show TwoI w5 gm1 gm3 A C X Z from ⟨HA5.out.1.a, HC5.out.1, HA5.out.1.t, HC5.out.2.2.t, HA5.out.1.s, HC5.out.2.2.s⟩)
  have HR5 := Lib.hid (show (RefRow w5 gr1 r ∧ RefAt w5 r A zA) ∧ RefRow w5 gr3 t ∧ RefAt w5 t C zC from ⟨HA5.out.2, HC5.out.2.1, hCr⟩)
  have HfC := Lib.hid (And.intro Hf.out.1 hfC)
  clear hCe hCr hfC HC5 HA5 hm
  go_upto_region 13 with fail
  refine tells_reg13 w5 gm1 gm3 A C X Z HAC HfC _ _ _ _ _ _ _ _ _ _ _ _ _ _ _ _ _ _ _ _ _ _ _ _ _ _ _ _ _ _ _ _ _ _ _ _ _ _ _ _ _ _ _ _ _ _ _ _ _ _ _ _ _ _ _ _ _ _ _ _ _ _ _ _ _ _ _ _ _ _ _ _ _ _ _ _ _ _ _ _ _ _ _ _ _ _ _ _ _ _ _ _ _ _ _ _ _ _ _ _ _ _ _ _ (Lib.hid ?_)
  intro s83 s84 s85 s86 w6 hb6
  have HR6 := Lib.hid (show (RefRow w6 gr1 r ∧ RefAt w6 r A zA) ∧ RefRow w6 gr3 t ∧ RefAt w6 t C zC from ⟨⟨HR5.out.1.1.below hb6, HR5.out.1.2.below hb6⟩, HR5.out.2.1.below hb6, HR5.out.2.2.below hb6⟩)
  have Hbel6 := Lib.hid (Hbel5.out.trans (hb6.mono Hbel5.out.size))
  clear HAC HR5 Hbel5 hb6
  go_upto_region 14 with fail
  refine tells_reg14 w6 gr1 gr3 A C r t zA zC HR6 HfC _ _ _ _ _ _ _ _ _ _ _ _ _ _ _ _ _ _ _ _ _ _ _ _ _ _ _ _ _ _ _ _ _ _ _ _ _ _ _ _ _ _ _ _ _ _ _ _ _ _ _ _ _ _ _ _ _ _ _ _ _ _ _ _ _ _ _ _ _ _ _ _ _ _ _ _ _ _ _ _ _ _ _ _ _ _ _ _ _ _ _ _ _ _ _ _ _ _ _ _ _ _ _ _ (Lib.hid ?_)
  intro s89 s90 s91 s92 w7 hb7
  have Hbel7 := Lib.hid (Hbel6.out.trans (hb7.mono Hbel6.out.size))
  clear HR6 Hbel6 hb7
  go_wp2_with ((with_reducible refine (dwakes_any _).mono ?_); rintro e wz ⟨rfl, hw⟩; have Hw := Lib.hid hw; clear hw)
  go_ret
  exact ⟨rfl, Hbel7.out.trans (Hw.out.mono Hbel7.out.size)⟩
end Go.Proofs.YtkngadbeflepoaaGreat
namespace Go.Proofs.YtkngadbeflepoaaGreat
open Go.RowKit
theorem deltaTells_row (n0 n1 : Int) (a1 : Option Addr) (l1 cap1 : Nat) (z1 : List CmdV) (a2 : Option Addr) (l2 cap2 : Nat) (z2 : List CmdV) (n4 : Int) {w : World} (f0 : (Lit.int .u8 n0).wf = true) (f1 : (Lit.int .u8 n1).wf = true) (h1 : CmdsAt w a1 l1 z1) (h2 : CmdsAt w a2 l2 z2) (f4 : (Lit.int .u8 n4).wf = true) (_W : World) :
    Calls Tryz.prog 3 #[.int .u8 n0, .int .u8 n1, .slice a1 l1 cap1, .slice a2 l2 cap2, .int .u8 n4] w fun e w' => e = .returned (.bool true) ∧ Below w.heap.size w w' := by
  obtain ⟨x0, rfl⟩ := tr_u8 f0
  obtain ⟨x1, rfl⟩ := tr_u8 f1
  obtain ⟨x4, rfl⟩ := tr_u8 f4
  exact deltaTells_any x0.toNat x1.toNat x4.toNat x0.isLt x1.isLt x4.isLt a1 l1 cap1 z1 a2 l2 cap2 z2 w h1 h2
end Go.Proofs.YtkngadbeflepoaaGreat
