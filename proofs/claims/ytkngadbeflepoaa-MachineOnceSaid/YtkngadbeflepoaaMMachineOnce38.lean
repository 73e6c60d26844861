/- The law MachineOnce: a command is done once, however often it comes. No condition. -/
import Derived.Test.YtkngadbeflepoaaMMachineOnce24
import Derived.Test.YtkngadbeflepoaaMMachineOnce25
import Derived.Test.YtkngadbeflepoaaMMachineOnce26
import Derived.Test.YtkngadbeflepoaaMMachineOnce27
import Derived.Test.YtkngadbeflepoaaMMachineOnce37
import Derived.Deep.DeepCutAuto
namespace Go.Proofs.Ytkngadbeflepoaa
open Go.RowKit

set_option maxRecDepth 100000 in
set_option maxHeartbeats 32000000 in
theorem machineOnce_any (al fi : Nat) (hal : al < 256) (hfi : fi < 256) (a1 : Option Addr) (l1 cap1 : Nat) (z1 : List CmdV) (a2 : Option Addr) (l2 cap2 : Nat) (z2 : List (BitVec 8)) (w : World) (h1 : CmdsAt w a1 l1 z1) (h2 : U8sAt w a2 l2 z2) :
    Calls Try.prog 5 #[.int .u8 (al : Int), .int .u8 (fi : Int), .slice a1 l1 cap1, .slice a2 l2 cap2] w fun e w' => e = .returned (.bool true) ∧ Below w.heap.size w w' := by
  by_cases he : kgreatS z1 = false ∧ l2 ≤ 100 ∧ mayS fi al = true
  case neg => exact once_easy al fi hal hfi a1 l1 cap1 z1 a2 l2 cap2 w h1 he
  obtain ⟨hg1, hb, hm⟩ := he
  have hl1 := h1.hlen
  have hgr1 := kgreat_any a1 l1 cap1 z1 w h1
  rw [hg1] at hgr1
  obtain ⟨hlen1, _⟩ := kgreat_ok hg1
  have hlen1' : l1 ≤ 100 := by omega
  have H1 := Lib.hid h1; clear h1
  have Hl1 := Lib.hid hl1; clear hl1 hlen1 hg1
  have Hgr := Lib.hid hgr1; clear hgr1
  have hb' : ¬ (100 : Int) < (l2 : Int) := by omega
  have H2 := Lib.hid h2; clear h2
  have hnew := fun y : World => new_any al fi hal hfi y
  unfold newM macV at hnew
  rw [hm] at hnew
  simp only [if_true] at hnew
  obtain ⟨M0, hM0⟩ : ∃ M, (⟨bothS al al, bothS fi fi, tabNone, .nil⟩ : MacV) = M := ⟨_, rfl⟩
  have hok0 : MacOk M0 := by rw [← hM0]; exact macOk_new al fi
  have hsh0 : M0.sh = .nil := by rw [← hM0]
  rw [hM0] at hnew
  clear hM0 hm
  rw [mac_eta] at hnew
  have Hnew := Lib.hid hnew; clear hnew
  have Hok0 := Lib.hid hok0; clear hok0
  have Hsh0 := Lib.hid hsh0; clear hsh0
  go_enter Try.func5, Try.ntmps5
  go_upto_region 4 with (first
    | ((with_reducible refine Hgr.out.mono ?_); clear Hgr; rintro e w' ⟨rfl, rfl⟩)
    | ((with_reducible refine (Hnew.out _).mono ?_); rintro e wn ⟨rfl, hbn⟩; have HBn := Lib.hid hbn; clear hbn))
  change Code.wp _ _ _ _ (wn.alloc (.cells (macCells M0 none).toArray 69))
  have HSm := Lib.hid (show MacAt (wn.alloc (.cells (macCells M0 none).toArray 69)) wn.heap.size M0 none from heap_alloc_new _ _)
  have HB0 := Lib.hid (HBn.out.alloc HBn.out.size (.cells (macCells M0 none).toArray 69))
  have HLm := Lib.hid HBn.out.size
  clear Hnew HBn
  generalize wn.alloc (.cells (macCells M0 none).toArray 69) = w0 at *
  generalize wn.heap.size = gm at *
  obtain ⟨⟨m0, m1, m14⟩, ⟨m2, m3, m4⟩, ⟨m5, m6, m7⟩, ⟨m8, m9, m10⟩, ⟨m11, m12, m13⟩⟩ := HSm.out.cells
  go_upto_region 7 with fail
  change Code.wp _ _ _ _ (w0.alloc (.cells (macCells M0 none).toArray 69))
  clear m0 m1 m2 m3 m4 m5 m6 m7 m8 m9 m10 m11 m12 m13 m14
  have HSn := Lib.hid (show MacAt (w0.alloc (.cells (macCells M0 none).toArray 69)) w0.heap.size M0 none from heap_alloc_new _ _)
  have HSm1 := Lib.hid (HSm.out.below ((Below.refl _ _).alloc (Nat.le_refl _) (.cells (macCells M0 none).toArray 69)))
  have HB1 := Lib.hid (HB0.out.alloc HB0.out.size (.cells (macCells M0 none).toArray 69))
  have HLn := Lib.hid (And.intro HSm.out.lt HB0.out.size)
  clear HSm HB0
  generalize w0.alloc (.cells (macCells M0 none).toArray 69) = w1 at *
  generalize w0.heap.size = gn at *
  go_wp2_with fail
  go_loopw [12] (fun s12 wr => ∃ (i : Nat) (M : MacV) (T U : Tr) (P Q : Option Addr), i ≤ l1 ∧ s12 = .int .i64 (i : Int) ∧ MacAt wr gm M P ∧ MacAt wr gn M Q ∧ TreeAt wr T ∧ TreeAt wr U ∧ (T.ptr = P ∧ T.sh = M.sh) ∧ (U.ptr = Q ∧ U.sh = M.sh) ∧ MacOk M ∧ (∀ j, j < i → Came M (z1.getD j default)) ∧ Below w.heap.size w wr) (fun s12 _ => l1 - (intOf s12).toNat)
  case atStart => exact ⟨0, M0, .nil, .nil, none, none, by omega, rfl, HSm1.out, HSn.out, trivial, trivial, ⟨rfl, Hsh0.out.symm⟩, ⟨rfl, Hsh0.out.symm⟩, Hok0.out, (fun j hj => by omega), HB1.out⟩
  case round =>
    obtain ⟨i, M, T, U, P, Q, hi, rfl, hsm, hsn, htm, htn, hem, hen, hok, hcm, hbel⟩ := hrel
    clear HSm1 HSn HB1 Hok0 Hsh0
    have Hsm := Lib.hid hsm; clear hsm
    have Hsn := Lib.hid hsn; clear hsn
    have Htm := Lib.hid htm; clear htm
    have Htn := Lib.hid htn; clear htn
    have Hem := Lib.hid hem; clear hem
    have Hen := Lib.hid hen; clear hen
    have Hok := Lib.hid hok; clear hok
    have Hcm := Lib.hid hcm; clear hcm
    have Hbel := Lib.hid hbel; clear hbel
    by_cases hlt : i < l1
    · have hlt' : (i : Int) < (l1 : Int) := by omega
      have hc2 := H1.out
      obtain ⟨b, o, rfl, hbl, hcs⟩ := cmd_stay (H1.out.below Hbel.out) hlt
      obtain ⟨c, hc⟩ : ∃ c, z1.getD i default = c := ⟨_, rfl⟩
      rw [hc] at hcs
      have Hci := Lib.hid hc; clear hc hc2
      have Hcs := Lib.hid hcs; clear hcs
      obtain ⟨⟨M2, code, text, fresh⟩, hO⟩ : ∃ r, macDo M c = r := ⟨_, rfl⟩
      have HO := Lib.hid hO
      have Hok2 := Lib.hid (show MacOk M2 by have h := macDo_ok Hok.out c; rw [hO] at h; exact h)
      have Hcm2 := Lib.hid (show ∀ j, j < i + 1 → Came M2 (z1.getD j default) by
        intro j hj
        have h := macDo_came (c := c) (d := z1.getD j default) (M := M)
        rw [hO] at h
        by_cases hj' : j < i
        · exact h (Hcm.out j hj')
        · rw [show j = i by omega, Hci.out]
          have h2 := macDo_self M c
          rw [hO] at h2
          exact h2)
      have Hst := Lib.hid (show fresh = false → M2 = M by
        intro hf
        have h := macDo_not (M := M) (c := c) (by rw [hO]; exact hf)
        rw [hO] at h
        exact h)
      have Hag := Lib.hid (show fresh = true → macDo M2 c = ⟨M2, code, text, false⟩ by
        intro hf
        have h1 := macDo_stay (macDo_self M c)
        have h2 := macDo_again (M := M) (c := c) (by rw [hO]; exact hf)
        rw [hO] at h1 h2
        generalize macDo M2 c = r at *
        obtain ⟨r1, r2, r3, r4⟩ := r
        obtain ⟨e1, e2⟩ := h1
        obtain ⟨e3, e4⟩ := h2
        simp only at e1 e2 e3 e4
        rw [e1, e2, e3, e4])
      clear hO
      have hsucc := tsucc (n := i) (by omega)
      have Hlim := Lib.hid (show M.all < 256 ∧ T.cnt ≤ 4611686018427387903 from ⟨Hok.out.all, by rw [sh_cnt, Hem.out.2]; have := Hok.out.kv.num; omega⟩)
      have Hlim2 := Lib.hid (show M.all < 256 ∧ U.cnt ≤ 4611686018427387903 from ⟨Hok.out.all, by rw [sh_cnt, Hen.out.2]; have := Hok.out.kv.num; omega⟩)
      go_upto_region 10 with fail
      refine once_reg10 wr gm M T P b o l1 cap1 i c M2 code text fresh (fun _ _ d _ _ h => by cases d <;> exact h) (fun _ _ d _ _ h => by cases d <;> exact h) Hsm Htm Hem Hlim HO hlt' Hcs _ _ _ _ _ _ _ _ _ _ _ _ _ _ _ _ _ _ _ _ _ _ _ _ _ _ _ _ _ _ _ _ _ _ _ _ _ _ _ _ _ _ _ _ _ _ _ _ _ _ _ _ _ _ _ _ _ _ _ _ _ _ _ _ _ _ _ _ _ _ _ _ _ _ _ _ _ _ _ _ _ _ _ _ _ _ _ _ _ _ _ _ _ _ _ _ _ _ _ _ _ _ _ _ _ _ _ _ _ _ _ _ _ _ _ _ _ _ _ _ _ _ _ _ _ _ _ _ _ _ _ _ _ _ _ _ _ _ _ _ _ _ _ _ _ _ _ _ _ _ _ _ _ (Lib.hid ?_)
      intro s51 s52 s53 s54 s55 s56 s57 s58 s59 s60 ga ra X P1 wa hE1
      have HE1 := Lib.hid hE1; clear hE1
      have Hsn1 := Lib.hid (Hsn.out.below HE1.out.bel)
      have Htn1 := Lib.hid (Htn.out.below HE1.out.bel)
      have Hcs1 := Lib.hid (Hcs.out.below HE1.out.bel)
      go_upto_region 11 with fail
      refine once_reg11 wa gn M U Q b o l1 cap1 i c M2 code text fresh (fun _ _ d _ _ h => by cases d <;> exact h) (fun _ _ d _ _ h => by cases d <;> exact h) Hsn1 Htn1 Hen Hlim2 HO hlt' Hcs1 _ _ _ _ _ _ _ _ _ _ _ _ _ _ _ _ _ _ _ _ _ _ _ _ _ _ _ _ _ _ _ _ _ _ _ _ _ _ _ _ _ _ _ _ _ _ _ _ _ _ _ _ _ _ _ _ _ _ _ _ _ _ _ _ _ _ _ _ _ _ _ _ _ _ _ _ _ _ _ _ _ _ _ _ _ _ _ _ _ _ _ _ _ _ _ _ _ _ _ _ _ _ _ _ _ _ _ _ _ _ _ _ _ _ _ _ _ _ _ _ _ _ _ _ _ _ _ _ _ _ _ _ _ _ _ _ _ _ _ _ _ _ _ _ _ _ _ _ _ _ _ _ _ (Lib.hid ?_)
      intro s61 s62 s63 s64 s65 s66 s67 s68 s69 s70 gb rb Y Q1 wb hE2
      have HE2 := Lib.hid hE2; clear hE2
      -- what lies there now
      have hb02 := HE1.out.bel.trans (HE2.out.bel.mono HE1.out.bel.size)
      have HA := Lib.hid (show OncePost wb w gm gn ga ra gb rb M P Q M2 P1 Q1 code text T X Y from
        ⟨Hsm.out.below hb02, (Hsn1.out.below HE2.out.bel), HE1.out.st.below HE2.out.bel, HE1.out.rep.below HE2.out.bel, HE2.out.st, HE2.out.rep, Htm.out.below hb02, HE1.out.tr.below HE2.out.bel, HE2.out.tr,
          ⟨HE1.out.ptr, HE1.out.sh⟩, ⟨HE2.out.ptr, HE2.out.sh⟩, Hbel.out.trans (hb02.mono Hbel.out.size),
          ⟨HLm.out, HLn.out.1, Nat.lt_of_lt_of_le Hsn.out.lt HE1.out.lo, Nat.lt_of_lt_of_le Hsn.out.lt HE1.out.lo2, HE1.out.ne, Nat.lt_of_lt_of_le HE1.out.st.lt HE2.out.lo, Nat.lt_of_lt_of_le HE1.out.rep.lt HE2.out.lo, Nat.lt_of_lt_of_le HE1.out.st.lt HE2.out.lo2, Nat.lt_of_lt_of_le HE1.out.rep.lt HE2.out.lo2, HE2.out.ne⟩⟩)
      have Hcs2 := Lib.hid (Hcs1.out.below HE2.out.bel)
      clear hb02 Hsm Hsn Htn HE1 HE2 Hsn1 Htn1 Hcs1 Hcs Htm Hbel Hlim2
      go_upto_region 12 with fail
      have Hok3 := Lib.hid (show SameTells M2 by
        rintro V W R S x y hV hW ⟨rfl, hv⟩ ⟨rfl, hw⟩ hy
        exact same_any M2 V W y (hV.below hy) (hW.below hy) (hv.trans hw.symm) (by rw [hv]; exact Hok2.out.kv.asc) (by rw [sh_cnt, hv]; have := Hok2.out.kv.num; omega))
      refine once_reg12 w wb gm gn ga ra gb rb M P Q M2 P1 Q1 code text T X Y fresh HA Hem Hst Hok3 _ _ _ _ _ _ _ _ _ _ _ _ _ _ _ _ _ _ _ _ _ _ _ _ _ _ _ _ _ _ _ _ _ _ _ _ _ _ _ _ _ _ _ _ _ _ _ _ _ _ _ _ _ _ _ _ _ _ _ _ _ _ _ _ _ _ _ _ _ _ _ _ _ _ _ _ _ _ _ _ _ _ _ _ _ _ _ _ _ _ _ _ _ _ _ _ _ _ _ _ _ _ _ _ _ _ _ _ _ _ _ _ _ _ _ _ _ _ _ _ _ _ _ _ _ _ _ _ _ _ _ _ _ _ _ _ _ _ _ _ _ _ _ _ _ _ _ _ _ (Lib.hid ?_)
      intro s71 s72 s73 s74 s75 s76 s77 s78 s79 s80 s81 s82 s83 s84 s85 s86 s87 s88 s89 s90 s91 s92 s93 w3 hbx
      have HA1 := Lib.hid (HA.out.below hbx)
      have Hcs3 := Lib.hid (Hcs2.out.below hbx)
      clear HA Hcs2 hbx
      go_upto_if 95 with fail
      refine once_if95 w w3 gm gn ga ra gb rb M P Q M2 P1 Q1 code text T X Y fresh b o l1 cap1 i c (fun _ _ d _ _ h => by cases d <;> exact h) (fun _ _ d _ _ h => by cases d <;> exact h) HA1 hlt' Hcs3 Hag Hok2 Hok3 _ _ _ _ _ _ _ _ _ _ _ _ _ _ _ _ _ _ _ _ _ _ _ _ _ _ _ _ _ _ _ _ _ _ _ _ _ _ _ _ _ _ _ _ _ _ _ _ _ _ _ _ _ _ _ _ _ _ _ _ _ _ _ _ _ _ _ _ _ _ _ _ _ _ _ _ _ _ _ _ _ _ _ _ _ _ _ _ _ _ _ _ _ _ _ _ _ _ _ _ _ _ _ _ _ _ _ _ _ _ _ _ _ _ _ _ _ _ _ _ _ _ _ _ _ _ _ _ _ _ _ _ _ _ _ _ _ _ _ _ _ _ _ _ _ _ _ _ _ _ _ (Lib.hid ?_)
      intro r8 r19 r20 r21 r96 r97 r98 r99 r100 r101 r102 r103 r104 r105 r106 r107 r108 r109 r110 r111 r112 r113 r114 r115 r116 r117 w5 hbx
      have HA2 := Lib.hid (HA1.out.below hbx)
      have Hcs4 := Lib.hid (Hcs3.out.below hbx)
      clear HA1 Hcs3 hbx Hag Hst
      go_wp2_with fail
      refine once_loop w w5 gm gn ga ra gb rb M P Q M2 P1 Q1 code text T X Y b o l1 cap1 z1 a2 l2 cap2 z2 i (fun _ _ d _ _ h => by cases d <;> exact h) (fun _ _ d _ _ h => by cases d <;> exact h) HA2 H1 H2 hlen1' (by omega) hlt Hok2 Hcm2 Hok3 _ _ _ _ _ _ _ _ _ _ _ _ _ _ _ _ _ _ _ _ _ _ _ _ _ _ _ _ _ _ _ _ _ _ _ _ _ _ _ _ _ _ _ _ _ _ _ _ _ _ _ _ _ _ _ _ _ _ _ _ _ _ _ _ _ _ _ _ _ _ _ _ _ _ _ _ _ _ _ _ _ _ _ _ _ _ _ _ _ _ _ _ _ _ _ _ _ _ _ _ _ _ _ _ _ _ _ _ _ _ _ _ _ _ _ _ _ _ _ _ _ _ _ _ _ _ _ _ _ _ _ _ _ _ _ _ _ _ _ _ _ _ _ _ _ _ _ _ _ _ _ (Lib.hid ?_)
      intro t8 t22 t23 t24 t25 t26 t118 t119 t120 t121 t122 t123 t124 t125 t126 t127 t128 t129 t130 t131 t132 t133 t134 t135 t136 t137 t138 t139 t140 t141 t142 t143 t144 t145 t146 t147 t148 t149 t150 t151 t152 V R w6 hA
      have HA := Lib.hid hA; clear hA
      clear HA2 Hcs4
      go_upto_region 27 with fail
      obtain ⟨⟨c0, c1, c14⟩, ⟨c2, c3, c4⟩, ⟨c5, c6, c7⟩, ⟨c8, c9, c10⟩, ⟨c11, c12, c13⟩⟩ := HA.out.a.cells
      obtain ⟨⟨b0, b1, b14⟩, ⟨b2, b3, b4⟩, ⟨b5, b6, b7⟩, ⟨b8, b9, b10⟩, ⟨b11, b12, b13⟩⟩ := HA.out.m.cells
      have q0 := HA.out.m.thawed 0; have q1 := HA.out.m.thawed 1; have q2 := HA.out.m.thawed 2; have q3 := HA.out.m.thawed 3; have q4 := HA.out.m.thawed 4; have q5 := HA.out.m.thawed 5; have q6 := HA.out.m.thawed 6; have q7 := HA.out.m.thawed 7; have q8 := HA.out.m.thawed 8; have q9 := HA.out.m.thawed 9; have q10 := HA.out.m.thawed 10; have q11 := HA.out.m.thawed 11; have q12 := HA.out.m.thawed 12; have q13 := HA.out.m.thawed 13; have q14 := HA.out.m.thawed 14
      have HZ := Lib.hid (once_setM HA.out)
      go_upto_region 28 with fail
      change Code.wp _ _ _ _ (rowSt w6 gm 0 (macCells M2 P1))
      clear c0 c1 c2 c3 c4 c5 c6 c7 c8 c9 c10 c11 c12 c13 c14 b0 b1 b2 b3 b4 b5 b6 b7 b8 b9 b10 b11 b12 b13 b14
      clear q0 q1 q2 q3 q4 q5 q6 q7 q8 q9 q10 q11 q12 q13 q14 HA
      generalize rowSt w6 gm 0 (macCells M2 P1) = w7 at *
      obtain ⟨⟨c0, c1, c14⟩, ⟨c2, c3, c4⟩, ⟨c5, c6, c7⟩, ⟨c8, c9, c10⟩, ⟨c11, c12, c13⟩⟩ := HZ.out.b.cells
      obtain ⟨⟨b0, b1, b14⟩, ⟨b2, b3, b4⟩, ⟨b5, b6, b7⟩, ⟨b8, b9, b10⟩, ⟨b11, b12, b13⟩⟩ := HZ.out.n.cells
      have q0 := HZ.out.n.thawed 0; have q1 := HZ.out.n.thawed 1; have q2 := HZ.out.n.thawed 2; have q3 := HZ.out.n.thawed 3; have q4 := HZ.out.n.thawed 4; have q5 := HZ.out.n.thawed 5; have q6 := HZ.out.n.thawed 6; have q7 := HZ.out.n.thawed 7; have q8 := HZ.out.n.thawed 8; have q9 := HZ.out.n.thawed 9; have q10 := HZ.out.n.thawed 10; have q11 := HZ.out.n.thawed 11; have q12 := HZ.out.n.thawed 12; have q13 := HZ.out.n.thawed 13; have q14 := HZ.out.n.thawed 14
      have HY := Lib.hid (once_setN HZ.out)
      go_wp2_with fail
      clear c0 c1 c2 c3 c4 c5 c6 c7 c8 c9 c10 c11 c12 c13 c14 b0 b1 b2 b3 b4 b5 b6 b7 b8 b9 b10 b11 b12 b13 b14
      clear q0 q1 q2 q3 q4 q5 q6 q7 q8 q9 q10 q11 q12 q13 q14 HZ
      go_roundw
      case rel => exact ⟨i + 1, M2, X, V, P1, R, hlt, rfl, HY.out.m, HY.out.n, HY.out.ta, HY.out.tb, HY.out.ea, HY.out.eb, Hok2.out, Hcm2.out, HY.out.bel⟩
      case measure => simp [intOf]; omega
    · have hlt' : ¬ (i : Int) < (l1 : Int) := by omega
      go_wp2_with ((with_reducible refine (mwakes_any _).mono ?_); rintro e wz ⟨rfl, hw⟩; have Hw := Lib.hid hw; clear hw)
      go_ret
      exact ⟨rfl, Hbel.out.trans (Hw.out.mono Hbel.out.size)⟩
end Go.Proofs.Ytkngadbeflepoaa
/- MachineOnce, as its row asks for it. No condition. -/
namespace Go.Proofs.Ytkngadbeflepoaa
open Go.RowKit

theorem machineOnce_law (n0 n1 : Int) (a1 : Option Addr) (l1 cap1 : Nat) (z1 : List CmdV) (a2 : Option Addr) (l2 cap2 : Nat) (z2 : List (BitVec 8)) {w : World} (f0 : (Lit.int .u8 n0).wf = true) (f1 : (Lit.int .u8 n1).wf = true)
    (h1 : CmdsAt w a1 l1 z1) (h2 : U8sAt w a2 l2 z2) (_W : World) :
    Calls Try.prog 5 #[.int .u8 n0, .int .u8 n1, .slice a1 l1 cap1, .slice a2 l2 cap2] w fun e w' => e = .returned (.bool true) ∧ Below w.heap.size w w' := by
  obtain ⟨x0, rfl⟩ := tr_u8 f0
  obtain ⟨x1, rfl⟩ := tr_u8 f1
  exact machineOnce_any x0.toNat x1.toNat x0.isLt x1.isLt a1 l1 cap1 z1 a2 l2 cap2 z2 w h1 h2
end Go.Proofs.Ytkngadbeflepoaa
