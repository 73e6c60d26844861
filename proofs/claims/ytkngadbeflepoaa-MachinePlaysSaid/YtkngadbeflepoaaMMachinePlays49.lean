/- The law MachinePlays: a machine answers, and has, what the document says. No condition. -/
import Derived.Test.YtkngadbeflepoaaMMachinePlays22
import Derived.Test.YtkngadbeflepoaaMMachinePlays44
import Derived.Test.YtkngadbeflepoaaMMachinePlays46
import Derived.Test.YtkngadbeflepoaaMMachinePlays48
namespace Go.Proofs.Ytkngadbeflepoaa
open Go.RowKit

def ref0 (M : MacV) : RefM := ⟨none, 0, 0, M.all, M.mem, none, 0, 0⟩
theorem newM_parts (al fi : Nat) : (newM al fi).tab = tabNone ∧ (newM al fi).sh = .nil := by
  unfold newM
  split <;> exact ⟨rfl, rfl⟩
theorem refAt0 (M : MacV) (ht : M.tab = tabNone) (hs : M.sh = .nil) (w : World) : RefAt w (ref0 M) M [] :=
  ⟨by rw [hs]; exact pairs_none, ⟨rfl, Nat.zero_le _, fun i x hx => by simp at hx⟩, rfl, rfl, by rw [ht]; exact keptTab_nil, .inl ⟨rfl, rfl, rfl⟩, sty_none _ _, by rw [hs]; exact List.Pairwise.nil, fun _ => ⟨rfl, rfl⟩, sty_none _ _⟩
/-- What lies there between two rounds. -/
structure PlaysL (w0 y : World) (gm gw g0 : Nat) (M0 M : MacV) (P : Option Addr) (T : Tr) (r : RefM) (z : List KeptV) (i : Nat) : Prop where
  m : MacAt y gm M P
  w : RefRow y gw r
  st : MacAt y g0 M0 none
  tm : TreeAt y T
  em : T.ptr = P ∧ T.sh = M.sh
  rm : RefAt y r M z
  fit : MacFit M
  k : r.k ≤ i
  lo : w0.heap.size ≤ gm ∧ gm < gw ∧ gw < g0
  bel : Below w0.heap.size w0 y
theorem PlaysL.n {w0 y : World} {gm gw g0 : Nat} {M0 M : MacV} {P : Option Addr} {T : Tr} {r : RefM} {z : List KeptV} {i : Nat} (h : PlaysL w0 y gm gw g0 M0 M P T r z i) : r.n ≤ 256 := by
  have h1 := h.rm.pairs.hlen
  have h2 := h.fit.kv.num
  rw [cnt_kv] at h2
  omega
/-- The two stores at a round's end. -/
theorem plays_end {w0 y : World} {gm gw g0 ga ra gs rs : Nat} {M0 M M2 : MacV} {P P1 : Option Addr} {T X : Tr} {r r2 : RefM} {z z2 : List KeptV} {i code : Nat} {text : ByteArray} (hst : MacAt y g0 M0 none) (h : PlaysI y gm gw ga ra gs rs M M2 P P1 T X r r2 z z2 code text)
    (hex : X.ptr = P1 ∧ X.sh = M2.sh) (hfit : MacFit M2) (hk : r2.k ≤ i) (hlo : w0.heap.size ≤ gm ∧ gm < gw ∧ gw < g0) (hlo2 : gw < gs) (hb : Below w0.heap.size w0 y) :
    RefRow (rowSt y gm 0 (macCells M2 P1)) gw r ∧ RefRow (rowSt y gm 0 (macCells M2 P1)) gs r2 ∧ PlaysL w0 (rowSt (rowSt y gm 0 (macCells M2 P1)) gw 0 (refCells r2)) gm gw g0 M0 M2 P1 X r2 z2 i := by
  obtain ⟨h1, h2, h3, h4⟩ := ma_st h.m M2 P1
  obtain ⟨l1, l2, l3⟩ := hlo
  have hw : RefRow (rowSt y gm 0 (macCells M2 P1)) gw r := (h2 _ (by omega)).trans h.w
  have hrx : RefAt (rowSt y gm 0 (macCells M2 P1)) r2 M2 z2 := h.rx.stay (rowSt_below (Nat.zero_le _) (macCells M2 P1) 0 _ (Below.refl 0 y)).size
    (fun b o e => h2 _ (STy.ne (t := 38) h.rx.ty h.m (by decide) b o e)) (fun b o e => h2 _ (STy.ne h.rx.kty h.m (by decide) b o e))
  have ho : ∀ b, b ≠ gw → (rowSt (rowSt y gm 0 (macCells M2 P1)) gw 0 (refCells r2)).heap[b]? = (rowSt y gm 0 (macCells M2 P1)).heap[b]? := fun b hb => rowSt_other hb _ _ _
  exact ⟨hw, (h2 _ (by omega)).trans h.s, ⟨(ho _ (by omega)).trans h1, hw.set r2, (ho _ (by omega)).trans ((h2 _ (by omega)).trans hst), TreeAt.row hw (by decide) _ _ (h4 _ h.tx), hex, hrx.row hw r2, hfit, hk, ⟨l1, l2, l3⟩, rowSt_below (by omega) _ _ _ (h3 _ _ hb l1)⟩⟩

set_option maxRecDepth 100000 in
set_option maxHeartbeats 32000000 in
theorem machinePlays_any (al fi : Nat) (hal : al < 256) (hfi : fi < 256) (a1 : Option Addr) (l1 cap1 : Nat) (z1 : List CmdV) (w : World) (h1 : CmdsAt w a1 l1 z1) :
    Calls Try.prog 6 #[.int .u8 (al : Int), .int .u8 (fi : Int), .slice a1 l1 cap1] w fun e w' => e = .returned (.bool true) ∧ Below w.heap.size w w' := by
  have hgr1 := kgreat_any a1 l1 cap1 z1 w h1
  by_cases hg1 : kgreatS z1 = true
  · rw [hg1] at hgr1
    have Hgr := Lib.hid hgr1; clear hgr1
    go_enter Try.func6, Try.ntmps6
    go_wp2_with (first
      | ((with_reducible refine Hgr.out.mono ?_); clear Hgr; rintro e w' ⟨rfl, rfl⟩)
      | ((with_reducible refine (mwakes_any _).mono ?_); rintro e wz ⟨rfl, hw⟩; have Hw := Lib.hid hw; clear hw))
    go_ret
    exact ⟨rfl, Hw.out⟩
  have hg1 : kgreatS z1 = false := by simpa using hg1
  rw [hg1] at hgr1
  have hl1 := h1.hlen
  obtain ⟨hlen1, _⟩ := kgreat_ok hg1
  have hlen1' : l1 ≤ 100 := by omega
  have H1 := Lib.hid h1; clear h1
  have Hl1 := Lib.hid hl1; clear hl1 hlen1 hg1
  have Hgr := Lib.hid hgr1; clear hgr1
  have hnew := fun y : World => new_any al fi hal hfi y
  have hmay := fun y : World => (show Calls Try.prog 34 #[.int .u8 (fi : Int), .int .u8 (al : Int)] y fun e w' => e = .returned (.bool (mayS fi al)) ∧ Below y.heap.size y w' by
    have h := rmay_any fi al hfi hal y
    have e : rmayS fi al = mayS fi al := rmay_eq hfi hal
    rw [e] at h
    exact h)
  obtain ⟨b, hb⟩ : ∃ b, mayS fi al = b := ⟨_, rfl⟩
  obtain ⟨ev, hev⟩ : ∃ v : Int, (if mayS fi al = true then (0 : Int) else 2) = v := ⟨_, rfl⟩
  obtain ⟨M0, hM0⟩ : ∃ M, newM al fi = M := ⟨_, rfl⟩
  have hfit0 : MacFit M0 := by rw [← hM0]; exact macFit_new al fi
  obtain ⟨htab0, hsh0⟩ := newM_parts al fi
  rw [hM0] at htab0 hsh0
  have hall : M0.all = if b = true then al % 128 else 0 := by rw [← hM0, ← hb]; unfold newM; split <;> simp [both_self, macNone]
  have hmem : M0.mem = if b = true then fi % 128 else 0 := by rw [← hM0, ← hb]; unfold newM; split <;> simp [both_self, macNone]
  rw [hM0, hev] at hnew
  rw [hb] at hmay hev
  unfold macV at hnew
  rw [mac_eta] at hnew
  have Hnew := Lib.hid hnew; clear hnew
  have Hmay := Lib.hid hmay; clear hmay
  have H0 := Lib.hid (And.intro hfit0 (And.intro htab0 hsh0)); clear hfit0 htab0 hsh0 hM0 hb
  have Hev := Lib.hid (And.intro hev (And.intro hall hmem)); clear hev hall hmem
  go_enter Try.func6, Try.ntmps6
  go_upto_region 4 with (first
    | ((with_reducible refine Hgr.out.mono ?_); clear Hgr; rintro e w' ⟨rfl, rfl⟩)
    | ((with_reducible refine (Hnew.out _).mono ?_); rintro e wn ⟨rfl, hbn⟩; have HBn := Lib.hid hbn; clear hbn))
  change Code.wp _ _ _ _ (wn.alloc (.cells (macCells M0 none).toArray 69))
  have HSm := Lib.hid (show MacAt (wn.alloc (.cells (macCells M0 none).toArray 69)) wn.heap.size M0 none from heap_alloc_new _ _)
  have HB0 := Lib.hid (HBn.out.alloc HBn.out.size (.cells (macCells M0 none).toArray 69))
  have HLm := Lib.hid HBn.out.size
  clear Hnew HBn
  generalize wn.alloc (.cells (macCells M0 none).toArray 69) = w0 at *
  generalize wn.heap.size = gm at *
  go_upto_region 5 with fail
  change Code.wp _ _ _ _ (w0.alloc (.cells (refCells refNone).toArray 79))
  have HSw := Lib.hid (show RefRow (w0.alloc (.cells (refCells refNone).toArray 79)) w0.heap.size refNone from heap_alloc_new _ _)
  have HSm1 := Lib.hid (HSm.out.below ((Below.refl _ _).alloc (Nat.le_refl _) (.cells (refCells refNone).toArray 79)))
  have HB1 := Lib.hid (HB0.out.alloc HB0.out.size (.cells (refCells refNone).toArray 79))
  have HLw := Lib.hid HSm.out.lt
  clear HSm HB0
  generalize w0.alloc (.cells (refCells refNone).toArray 79) = w1 at *
  generalize w0.heap.size = gw at *
  go_upto_if 30 with ((with_reducible refine (Hmay.out _).mono ?_); rintro e w2 ⟨rfl, hb2⟩; have Hb2 := Lib.hid hb2; clear hb2)
  have HSw2 := Lib.hid (HSw.out.below Hb2.out)
  have HSm2 := Lib.hid (HSm1.out.below Hb2.out)
  have HB2 := Lib.hid (HB1.out.trans (Hb2.out.mono HB1.out.size))
  clear HSw HSm1 HB1 Hb2 Hmay
  go_cut [10] (fun s10 wx => s10 = .int .i64 ev ∧ RefRow wx gw (ref0 M0) ∧ MacAt wx gm M0 none ∧ Below w.heap.size w wx)
  case first =>
    obtain ⟨r0, r1, r2, r3⟩ := HSw2.out.cells
    have y1 := HSw2.out.thawed 1
    have y2 := HSw2.out.thawed 2
    cases b with
    | true =>
      obtain ⟨he, ha, hm⟩ := Hev.out
      simp only [if_true] at he ha hm
      go_wp2_with fail
      go_meet
      refine ⟨by rw [← he], ?_, (HSm2.out.other (by have := HLw.out; omega)).other (by have := HLw.out; omega), below_setV (below_setV HB2.out (by have := HLw.out; have := HLm.out; omega)) (by have := HLw.out; have := HLm.out; omega)⟩
      have h1 := HSw2.out
      unfold RefRow at h1 ⊢
      have h2 := heap_setCell_same w2 gw 1 _ _ (.int .u8 ((al : Int) % 128)) h1
      rw [heap_setCell_same _ gw 2 _ _ (.int .u8 ((fi : Int) % 128)) h2]
      unfold ref0
      rw [ha, hm, ref_eta]
      simp [refCells, refNone]
    | false =>
      obtain ⟨he, ha, hm⟩ := Hev.out
      simp only [Bool.false_eq_true, if_false] at he ha hm
      go_wp2_with fail
      go_meet
      refine ⟨by rw [← he], ?_, HSm2.out, HB2.out⟩
      have h1 := HSw2.out
      unfold RefRow at h1 ⊢
      rw [h1]
      unfold ref0
      rw [ha, hm]
      rfl
  case rest =>
  obtain ⟨rfl, hcw, hcm, hcb⟩ := hcut
  have HSw := Lib.hid hcw; clear hcw
  have HSm := Lib.hid hcm; clear hcm
  have HB := Lib.hid hcb; clear hcb HSw2 HSm2 HB2 Hev
  generalize wc = w3 at *
  obtain ⟨⟨m0, m1, m14⟩, ⟨m2, m3, m4⟩, ⟨m5, m6, m7⟩, ⟨m8, m9, m10⟩, ⟨m11, m12, m13⟩⟩ := HSm.out.cells
  obtain ⟨q0, q1, q2, q3⟩ := HSw.out.cells
  have hal0 := alike13_any M0 .nil none (ref0 M0) [] w3 trivial rfl H0.out.2.2.symm (refAt0 M0 H0.out.2.1 H0.out.2.2 w3) (Nat.zero_le _)
  unfold macV at hal0
  rw [mac_eta M0 none, ref_eta] at hal0
  have Hal0 := Lib.hid hal0; clear hal0
  go_upto_region 12 with ((with_reducible refine Hal0.out.mono ?_); clear Hal0; rintro e w4 ⟨rfl, hb4⟩; have Hb4 := Lib.hid hb4; clear hb4)
  clear m0 m1 m2 m3 m4 m5 m6 m7 m8 m9 m10 m11 m12 m13 m14 q0 q1 q2 q3
  have HSm4 := Lib.hid (HSm.out.below Hb4.out)
  have HSw4 := Lib.hid (HSw.out.below Hb4.out)
  have HB4 := Lib.hid (HB.out.trans (Hb4.out.mono HB.out.size))
  clear HSm HSw HB Hb4
  obtain ⟨⟨m0, m1, m14⟩, ⟨m2, m3, m4⟩, ⟨m5, m6, m7⟩, ⟨m8, m9, m10⟩, ⟨m11, m12, m13⟩⟩ := HSm4.out.cells
  go_upto_region 13 with fail
  change Code.wp _ _ _ _ (w4.alloc (.cells (macCells M0 none).toArray 69))
  clear m0 m1 m2 m3 m4 m5 m6 m7 m8 m9 m10 m11 m12 m13 m14
  have hbk := (Below.refl w4.heap.size w4).alloc (Nat.le_refl _) (.cells (macCells M0 none).toArray 69)
  have HI := Lib.hid (show PlaysL w (w4.alloc (.cells (macCells M0 none).toArray 69)) gm gw w4.heap.size M0 M0 none .nil (ref0 M0) [] 0 from
    ⟨HSm4.out.below hbk, HSw4.out.below hbk, heap_alloc_new _ _, trivial, ⟨rfl, H0.out.2.2.symm⟩, refAt0 M0 H0.out.2.1 H0.out.2.2 _, H0.out.1, Nat.le_refl _, ⟨HLm.out, HLw.out, HSw4.out.lt⟩, HB4.out.trans (hbk.mono HB4.out.size)⟩)
  clear hbk HSm4 HSw4 HB4 HLm HLw
  generalize w4.alloc (.cells (macCells M0 none).toArray 69) = w5 at *
  generalize w4.heap.size = g0 at *
  go_wp2_with fail
  go_loopw [12] (fun s12 wr => ∃ (i : Nat) (M : MacV) (T : Tr) (P : Option Addr) (r : RefM) (z : List KeptV), i ≤ l1 ∧ s12 = .int .i64 (i : Int) ∧ M = macsDo M0 (z1.take i) ∧ PlaysL w wr gm gw g0 M0 M P T r z i) (fun s12 _ => l1 - (intOf s12).toNat)
  case atStart => exact ⟨0, M0, .nil, none, ref0 M0, [], by omega, rfl, rfl, HI.out⟩
  case round =>
    obtain ⟨i, M, T, P, r, z, hi, rfl, hM, hI⟩ := hrel
    clear HI
    have HI := Lib.hid hI; clear hI
    have HM := Lib.hid hM; clear hM
    by_cases hlt : i < l1
    · have hlt' : (i : Int) < (l1 : Int) := by omega
      have hstep := macsDo_take M0 z1 (i := i) (by rw [Hl1.out]; exact hlt)
      rw [← HM.out] at hstep
      obtain ⟨b, o, rfl, hbl, hcs⟩ := cmd_stay (H1.out.below HI.out.bel) hlt
      obtain ⟨c, hc⟩ : ∃ c, z1.getD i default = c := ⟨_, rfl⟩
      rw [hc] at hcs hstep
      have Hcs := Lib.hid hcs; clear hcs hc hbl
      have Hfit2 := Lib.hid (macDo_fit HI.out.fit c)
      obtain ⟨⟨M2, code, text, fresh⟩, hO⟩ : ∃ O, macDo M c = O := ⟨_, rfl⟩
      rw [hO] at Hfit2 hstep
      have HO := Lib.hid hO; clear hO
      have Hstep := Lib.hid hstep; clear hstep
      have hsucc := tsucc (n := i) (by omega)
      have Hlim := Lib.hid (show M.all < 256 ∧ T.cnt ≤ 4611686018427387903 from ⟨by have := HI.out.fit.all; omega, by rw [sh_cnt, HI.out.em.2]; have := HI.out.fit.kv.num; omega⟩)
      have Hlim2 := Lib.hid (show M.all < 256 ∧ r.n ≤ 1000000 ∧ r.k ≤ 1000000 from ⟨Hlim.out.1, by have := HI.out.n; omega, by have := HI.out.k; omega⟩)
      go_upto_region 16 with fail
      refine plays_reg16 wr gm M T P b o l1 cap1 i c M2 code text fresh (fun _ _ d _ _ h => by cases d <;> exact h) (fun _ _ d _ _ h => by cases d <;> exact h) (Lib.hid HI.out.m) (Lib.hid HI.out.tm) (Lib.hid HI.out.em) Hlim HO hlt' Hcs _ _ _ _ _ _ _ _ _ _ _ _ _ _ _ _ _ _ _ _ _ _ _ _ _ _ _ _ _ _ _ _ _ _ _ _ _ _ _ _ _ _ _ _ _ _ _ _ _ _ _ _ _ _ _ _ _ _ _ _ _ _ _ _ _ _ _ _ _ _ _ _ _ _ _ _ _ _ _ _ _ _ _ _ _ _ _ _ _ _ _ _ _ _ _ _ _ _ _ _ _ _ _ _ _ _ _ _ _ (Lib.hid ?_)
      intro s53 s54 s55 s56 s57 s58 s59 s60 s61 s62 ga ra X P1 wa hE1
      have HE1 := Lib.hid hE1; clear hE1
      have Hcs1 := Lib.hid (Hcs.out.below HE1.out.bel)
      have Hw1 := Lib.hid (HI.out.w.below HE1.out.bel)
      have Hr1 := Lib.hid (HI.out.rm.below HE1.out.bel)
      clear Hcs
      go_upto_region 17 with fail
      refine plays_reg17 wa gw r M z b o l1 cap1 i c M2 code text fresh (fun _ _ d _ _ h => by cases d <;> exact h) (fun _ _ d _ _ h => by cases d <;> exact h) Hw1 Hr1 Hlim2 HO hlt' Hcs1 _ _ _ _ _ _ _ _ _ _ _ _ _ _ _ _ _ _ _ _ _ _ _ _ _ _ _ _ _ _ _ _ _ _ _ _ _ _ _ _ _ _ _ _ _ _ _ _ _ _ _ _ _ _ _ _ _ _ _ _ _ _ _ _ _ _ _ _ _ _ _ _ _ _ _ _ _ _ _ _ _ _ _ _ _ _ _ _ _ _ _ _ _ _ _ _ _ _ _ _ _ _ _ _ _ _ _ _ _ (Lib.hid ?_)
      intro s63 s64 s65 s66 s67 s68 s69 s70 s71 s72 gs rs r2 z2 wb hE2
      have HE2 := Lib.hid hE2; clear hE2
      have hb02 := HE1.out.bel.trans (HE2.out.bel.mono HE1.out.bel.size)
      have HP := Lib.hid (show PlaysI wb gm gw ga ra gs rs M M2 P P1 T X r r2 z z2 code text from
        ⟨HI.out.m.below hb02, Hw1.out.below HE2.out.bel, HE1.out.st.below HE2.out.bel, HE1.out.rep.below HE2.out.bel, HE2.out.st, HE2.out.rep, HI.out.tm.below hb02, HE1.out.tr.below HE2.out.bel, Hr1.out.below HE2.out.bel, HE2.out.at_⟩)
      have HE := Lib.hid (show PlaysE M M2 P P1 T X r r2 from ⟨HI.out.em, ⟨HE1.out.ptr, HE1.out.sh⟩, by have := HI.out.n; omega, by
        have h1 := HE2.out.at_.pairs.hlen
        have h2 := Hfit2.out.kv.num
        rw [cnt_kv] at h2
        simp only at h2
        omega, macFit_by Hfit2.out⟩)
      have Hst := Lib.hid (HI.out.st.below hb02)
      have Hbel := Lib.hid (HI.out.bel.trans (hb02.mono HI.out.bel.size))
      have Hlo := Lib.hid (show r2.k ≤ i + 1 ∧ gw < gs from ⟨by have := HE2.out.k; have := HI.out.k; omega, Nat.lt_of_lt_of_le HI.out.w.lt (Nat.le_trans HE1.out.bel.size HE2.out.lo)⟩)
      clear hb02 HE1 HE2 Hw1 Hr1 Hcs1
      go_upto_region 18 with fail
      refine plays_reg18 wb gm gw ga ra gs rs M M2 P P1 T X r r2 z z2 code text fresh (fun _ _ d _ _ h => by cases d <;> exact h) HP HE _ _ _ _ _ _ _ _ _ _ _ _ _ _ _ _ _ _ _ _ _ _ _ _ _ _ _ _ _ _ _ _ _ _ _ _ _ _ _ _ _ _ _ _ _ _ _ _ _ _ _ _ _ _ _ _ _ _ _ _ _ _ _ _ _ _ _ _ _ _ _ _ _ _ _ _ _ _ _ _ _ _ _ _ _ _ _ _ _ _ _ _ _ _ _ _ _ _ _ _ _ _ _ _ (Lib.hid ?_)
      intro s73 s74 s75 s76 s77 s78 s79 s80 s81 s82 s83 s84 s85 s86 s87 s88 s89 s90 s91 s92 s93 s94 s95 s96 s97 s98 w6 hb6
      have HP6 := Lib.hid (HP.out.below hb6)
      have Hst6 := Lib.hid (Hst.out.below hb6)
      have Hbel6 := Lib.hid (Hbel.out.trans (hb6.mono Hbel.out.size))
      clear HP Hst Hbel hb6
      obtain ⟨e1, e2, e3⟩ := plays_end Hst6.out HP6.out HE.out.ex Hfit2.out Hlo.out.1 HI.out.lo Hlo.out.2 Hbel6.out
      have Hw7 := Lib.hid (And.intro e1 e2); clear e1 e2
      have HL := Lib.hid e3; clear e3
      obtain ⟨⟨c0, c1, c14⟩, ⟨c2, c3, c4⟩, ⟨c5, c6, c7⟩, ⟨c8, c9, c10⟩, ⟨c11, c12, c13⟩⟩ := HP6.out.a.cells
      obtain ⟨⟨b0, b1, b14⟩, ⟨b2, b3, b4⟩, ⟨b5, b6, b7⟩, ⟨b8, b9, b10⟩, ⟨b11, b12, b13⟩⟩ := HP6.out.m.cells
      have q0 := HP6.out.m.thawed 0
      have q1 := HP6.out.m.thawed 1
      have q2 := HP6.out.m.thawed 2
      have q3 := HP6.out.m.thawed 3
      have q4 := HP6.out.m.thawed 4
      have q5 := HP6.out.m.thawed 5
      have q6 := HP6.out.m.thawed 6
      have q7 := HP6.out.m.thawed 7
      have q8 := HP6.out.m.thawed 8
      have q9 := HP6.out.m.thawed 9
      have q10 := HP6.out.m.thawed 10
      have q11 := HP6.out.m.thawed 11
      have q12 := HP6.out.m.thawed 12
      have q13 := HP6.out.m.thawed 13
      have q14 := HP6.out.m.thawed 14
      go_upto_region 21 with fail
      change Code.wp _ _ _ _ (rowSt w6 gm 0 (macCells M2 P1))
      clear c0 c1 c2 c3 c4 c5 c6 c7 c8 c9 c10 c11 c12 c13 c14 b0 b1 b2 b3 b4 b5 b6 b7 b8 b9 b10 b11 b12 b13 b14 q0 q1 q2 q3 q4 q5 q6 q7 q8 q9 q10 q11 q12 q13 q14 HP6 Hst6 Hbel6
      generalize rowSt w6 gm 0 (macCells M2 P1) = w7 at *
      obtain ⟨c0, c1, c2, c3⟩ := Hw7.out.1.cells
      obtain ⟨d0, d1, d2, d3⟩ := Hw7.out.2.cells
      have q0 := Hw7.out.1.thawed 0
      have q1 := Hw7.out.1.thawed 1
      have q2 := Hw7.out.1.thawed 2
      have q3 := Hw7.out.1.thawed 3
      go_wp2_with fail
      clear c0 c1 c2 c3 d0 d1 d2 d3 q0 q1 q2 q3
      go_roundw
      case rel => exact ⟨i + 1, M2, X, P1, r2, z2, hlt, rfl, Hstep.out.symm, HL.out⟩
      case measure => simp [intOf]; omega
    · have hlt' : ¬ (i : Int) < (l1 : Int) := by omega
      have hall : M = macsDo M0 z1 := by rw [HM.out, List.take_of_length_le (by rw [Hl1.out]; omega)]
      have Hby := Lib.hid (macFit_by HI.out.fit)
      have Hloc := Lib.hid (fun (y : World) (hy : KeptW wr y) => (show MacAt y gm M P ∧ MacAt y g0 M0 none ∧ TreeAt y T from ⟨HI.out.m.below (KeptW.bel hy), HI.out.st.below (KeptW.bel hy), HI.out.tm.below (KeptW.bel hy)⟩))
      obtain ⟨V0, hV0⟩ : ∃ V, macV M0 none = V := ⟨_, rfl⟩
      obtain ⟨V1, hV1⟩ : ∃ V, macV M P = V := ⟨_, rfl⟩
      obtain ⟨S1, hS1⟩ : ∃ S : ByteArray, (⟨(macB M).toArray⟩ : ByteArray) = S := ⟨_, rfl⟩
      have HF := Lib.hid (fun (y : World) (hy : KeptW wr y) => (show Calls Try.prog 39 #[V0, .slice a1 l1 cap1] y fun e w' => ∃ X, e = .returned (macV M X.ptr) ∧ TreeAt w' X ∧ X.sh = M.sh ∧ Below y.heap.size y w' by
        have h := fold_any M0 .nil a1 l1 cap1 z1 y H0.out.1.ok trivial H0.out.2.2.symm (H1.out.below (HI.out.bel.trans ((KeptW.bel hy).mono HI.out.bel.size)))
        rw [← hall] at h
        rw [← hV0]
        exact h))
      have HB1 := Lib.hid (fun (X : Tr) (y : World) (hX : TreeAt y X) (hs : X.sh = M.sh) => (show Calls Try.prog 37 #[macV M X.ptr] y fun e w' => e = .returned (.string S1) ∧ Below y.heap.size y w' by
        rw [← hS1]
        exact mbytes_any M X Hby.out y hX hs))
      have HB2 := Lib.hid (fun (y : World) (hy : KeptW wr y) => (show Calls Try.prog 37 #[V1] y fun e w' => e = .returned (.string S1) ∧ Below y.heap.size y w' by
        rw [← hV1, ← hS1, ← HI.out.em.1]
        exact mbytes_any M T Hby.out y (Hloc.out y hy).2.2 HI.out.em.2))
      have HV0 := Lib.hid hV0; clear hV0
      have HV1 := Lib.hid hV1; clear hV1 hS1 hall
      go_upto_region 22 with fail
      refine (wpIn_wide (n := 1)).1 ?_
      refine RegJ.wpIn_region_plan (F := Fence.wide) (KeptW wr) (.step 0 0 (.step 1 0 (.step 4 0 (.step 2 1 (.step 3 1 (.step 5 1 (.step 6 0 (.step 7 0 (.step 8 1 (.step 9 0 (.step 10 0 .nil))))))))))) (by kernel_rfl) (by kernel_rfl) (by kernel_rfl) (fun _ _ d _ _ h => by cases d <;> exact h) ⟨rfl, rfl, rfl, Nat.le_refl _, fun _ _ => rfl⟩ ?_
      dsimp only [RegJ.pickJ, List.getElem?_cons_zero, List.getElem?_cons_succ]
      change RegJ.Can _ _ _ _ _ _ _ _ wr.drew
      have hkd : KeptW wr wr.drew := ⟨rfl, rfl, rfl, Nat.le_refl _, fun _ _ => rfl⟩
      generalize wr.drew = v1 at *
      refine RegJ.reads ?_
      intro K hK
      go_simp
      refine ⟨V0, fun y hy => ?_, hK _ ?_⟩
      · rw [← HV0.out]
        unfold macV
        rw [mac_eta M0 none]
        obtain ⟨⟨m0, m1, m14⟩, ⟨m2, m3, m4⟩, ⟨m5, m6, m7⟩, ⟨m8, m9, m10⟩, ⟨m11, m12, m13⟩⟩ := (Hloc.out y hy).2.1.cells
        go_simp
      clear hK K
      refine RegJ.reads ?_; intro K hK; go_simp; (first | refine ⟨_, fun _ _ => rfl, hK _ ?_⟩ | refine hK _ ?_); clear hK K
      refine RegJ.reads ?_
      intro K hK
      go_simp
      refine ⟨V1, fun y hy => ?_, hK _ ?_⟩
      · rw [← HV1.out]
        unfold macV
        rw [mac_eta M P]
        obtain ⟨⟨m0, m1, m14⟩, ⟨m2, m3, m4⟩, ⟨m5, m6, m7⟩, ⟨m8, m9, m10⟩, ⟨m11, m12, m13⟩⟩ := (Hloc.out y hy).1.cells
        go_simp
      clear hK K
      refine RegJ.turns (fun _ => trivial) ?_
      intro K K0 hK hK0
      go_simp
      refine ⟨trivial, ?_⟩
      refine (callsIn_wide.2 (HF.out v1 (hkd))).mono ?_
      rintro e v2 ⟨X, rfl, hX1, hX2, hb7⟩
      have v2k : KeptW wr v2 := KeptW.mono hkd hb7
      refine hK _ _ _ (fun _ h => h) v2k ?_
      clear hK K hK0 K0
      refine RegJ.turns (fun _ => trivial) ?_
      intro K K0 hK hK0
      go_simp
      refine ⟨trivial, ?_⟩
      refine (callsIn_wide.2 (HB1.out X v2 hX1 hX2)).mono ?_
      rintro e v3 ⟨rfl, hb7⟩
      have v3k : KeptW wr v3 := KeptW.mono v2k hb7
      refine hK _ _ _ (fun _ h => h) v3k ?_
      clear hK K hK0 K0
      refine RegJ.turns (fun _ => trivial) ?_
      intro K K0 hK hK0
      go_simp
      refine ⟨trivial, ?_⟩
      refine (callsIn_wide.2 (HB2.out v3 (v3k))).mono ?_
      rintro e v4 ⟨rfl, hb7⟩
      have v4k : KeptW wr v4 := KeptW.mono v3k hb7
      refine hK _ _ _ (fun _ h => h) v4k ?_
      clear hK K hK0 K0
      iterate 2 (refine RegJ.reads ?_; intro K hK; go_simp; (first | refine ⟨_, fun _ _ => rfl, hK _ ?_⟩ | refine hK _ ?_); clear hK K)
      refine RegJ.turns (fun _ => trivial) ?_
      intro K K0 hK hK0
      go_simp
      refine ⟨trivial, ?_⟩
      refine (callsIn_wide.2 (mwakes_any v4)).mono ?_
      rintro e v5 ⟨rfl, hb7⟩
      have v5k : KeptW wr v5 := KeptW.mono v4k hb7
      refine hK _ _ _ (fun _ h => h) v5k ?_
      clear hK K hK0 K0
      iterate 2 (refine RegJ.reads ?_; intro K hK; go_simp; (first | refine ⟨_, fun _ _ => rfl, hK _ ?_⟩ | refine hK _ ?_); clear hK K)
      refine RegJ.nil ?_
      have HJ2 := Lib.hid (HI.out.bel.trans ((KeptW.bel v5k).mono HI.out.bel.size))
      go_wp2_with fail
      go_ret
      exact ⟨rfl, HJ2.out⟩
end Go.Proofs.Ytkngadbeflepoaa
/- MachinePlays, as its row asks for it. No condition. -/
namespace Go.Proofs.Ytkngadbeflepoaa
open Go.RowKit

theorem machinePlays_law (n0 n1 : Int) (a1 : Option Addr) (l1 cap1 : Nat) (z1 : List CmdV) {w : World} (f0 : (Lit.int .u8 n0).wf = true) (f1 : (Lit.int .u8 n1).wf = true) (h1 : CmdsAt w a1 l1 z1) (_W : World) :
    Calls Try.prog 6 #[.int .u8 n0, .int .u8 n1, .slice a1 l1 cap1] w fun e w' => e = .returned (.bool true) ∧ Below w.heap.size w w' := by
  obtain ⟨x0, rfl⟩ := tr_u8 f0
  obtain ⟨x1, rfl⟩ := tr_u8 f1
  exact machinePlays_any x0.toNat x1.toNat x0.isLt x1.isLt a1 l1 cap1 z1 w h1
end Go.Proofs.Ytkngadbeflepoaa
