/- The law DeltaShort: a delta is short, where little changed. No condition. -/
import Derived.Deep.DeepCutAuto
import Derived.Test.YtkngadbeflepoaaZDeltaShort1
import Derived.Test.YtkngadbeflepoaaZDeltaLeads16
namespace Go.Proofs.Ytkngadbeflepoaa
open Go.RowKit
theorem cell_row_other {y : World} {g q b : Nat} (hne : b ≠ g) (vs : List Value) (i : Nat) : (rowSt y g i vs).cell? ⟨b, q, none⟩ = y.cell? ⟨b, q, none⟩ := by
  simp only [World.cell?]
  rw [rowSt_other hne]
theorem cell_grown {y y' : World} {B b q : Nat} (hg : y.grownBy y' (some B)) (hb : b < y.heap.size) (hne : b ≠ B) : y'.cell? ⟨b, q, none⟩ = y.cell? ⟨b, q, none⟩ := by
  simp only [World.cell?]
  rw [hg.block b hb (fun e => by cases e; exact hne rfl)]
theorem short_new : MacAll (newM 127 127) ∧ mayS 127 127 = true := by
  refine ⟨⟨macFit_new 127 127, ?_, by decide +kernel⟩, by decide +kernel⟩
  rw [(newM_parts 127 127).2]
  trivial
set_option maxRecDepth 100000 in
set_option maxHeartbeats 32000000 in
theorem deltaShort_any (keys : Nat) (hkeys : keys < 256) (a1 : Option Addr) (l1 cap1 : Nat) (z1 : List CmdV) (w : World) (h1 : CmdsAt w a1 l1 z1) :
    Calls Try.prog 10 #[.int .u8 (keys : Int), .slice a1 l1 cap1] w fun e w' => e = .returned (.bool true) ∧ Below w.heap.size w w' := by
  have hl1 := h1.hlen
  have hgr := kgreat_any a1 l1 cap1 z1 w h1
  cases hg : kgreatS z1 with
  | true =>
    rw [hg] at hgr
    clear h1 hl1
    have Hgr := Lib.hid hgr; clear hgr
    go_enter Try.func10, Try.ntmps10
    go_wp2_with (first
      | ((with_reducible refine Hgr.out.mono ?_); rintro e w' ⟨rfl, rfl⟩)
      | ((with_reducible refine (dwakes_any _).mono ?_); rintro e wz ⟨rfl, hw⟩; have Hw := Lib.hid hw; clear hw))
    go_ret
    exact ⟨rfl, Hw.out⟩
  | false =>
  rw [hg] at hgr
  clear hg
  by_cases hl30 : 30 < l1
  · have hl' : (30 : Int) < (l1 : Int) := by omega
    clear h1 hl1 hl30
    have Hgr := Lib.hid hgr; clear hgr
    go_enter Try.func10, Try.ntmps10
    go_wp2_with (first
      | ((with_reducible refine Hgr.out.mono ?_); rintro e w' ⟨rfl, rfl⟩)
      | ((with_reducible refine (dwakes_any _).mono ?_); rintro e wz ⟨rfl, hw⟩; have Hw := Lib.hid hw; clear hw))
    go_ret
    exact ⟨rfl, Hw.out⟩
  have hl' : ¬ (30 : Int) < (l1 : Int) := by omega
  by_cases hk250 : 250 < keys
  · have hk' : (250 : Int) < (keys : Int) := by omega
    clear h1 hl1 hl30 hk250
    have Hgr := Lib.hid hgr; clear hgr
    go_enter Try.func10, Try.ntmps10
    go_wp2_with (first
      | ((with_reducible refine Hgr.out.mono ?_); rintro e w' ⟨rfl, rfl⟩)
      | ((with_reducible refine (dwakes_any _).mono ?_); rintro e wz ⟨rfl, hw⟩; have Hw := Lib.hid hw; clear hw))
    go_ret
    exact ⟨rfl, Hw.out⟩
  have hk' : ¬ (250 : Int) < (keys : Int) := by omega
  have H1lo := Lib.hid (show ∀ b o, a1 = some ⟨b, o, none⟩ → 0 < l1 → b < w.heap.size from fun b o e hp => by
    obtain ⟨b2, o2, e2, hb, _⟩ := h1.cells 0 (z1.getD 0 default) (by rw [List.getD_eq_getElem?_getD, List.getElem?_eq_getElem (by omega)]; rfl)
    rw [e] at e2
    cases e2
    exact hb)
  have H1 := Lib.hid h1; clear h1
  have Hl1 := Lib.hid hl1; clear hl1
  have Hgr := Lib.hid hgr; clear hgr
  obtain ⟨hall0, hmay⟩ := short_new
  have hnew := fun y : World => (show Calls Try.prog 31 #[.int .u8 127, .int .u8 127] y fun e w' => e = .returned (.tuple #[macV (newM 127 127) none, .int .i64 0]) ∧ Below y.heap.size y w' by
    have k := new_any 127 127 (by omega) (by omega) y
    rw [if_pos hmay] at k
    exact k)
  have hsh0 : (newM 127 127).sh = .nil := (newM_parts 127 127).2
  generalize newM 127 127 = M0 at *
  unfold macV at hnew
  rw [mac_eta] at hnew
  have Hnew := Lib.hid hnew; clear hnew hmay
  have Hall0 := Lib.hid (And.intro hall0 hsh0); clear hall0 hsh0
  go_enter Try.func10, Try.ntmps10
  go_upto_region 4 with (first
    | ((with_reducible refine Hgr.out.mono ?_); rintro e w' ⟨rfl, rfl⟩)
    | ((with_reducible refine (Hnew.out _).mono ?_); rintro e wn ⟨rfl, hbn⟩; have HBn := Lib.hid hbn; clear hbn))
  change Code.wp _ _ _ _ (wn.alloc (.cells (macCells M0 none).toArray 69))
  have HI0 := Lib.hid (show OneI (wn.alloc (.cells (macCells M0 none).toArray 69)) wn.heap.size M0 .nil from ⟨heap_alloc_new _ _, trivial, Hall0.out.2.symm⟩)
  have HB0 := Lib.hid (And.intro (HBn.out.alloc HBn.out.size (.cells (macCells M0 none).toArray 69)) HBn.out.size)
  clear Hnew HBn Hgr
  generalize wn.alloc (.cells (macCells M0 none).toArray 69) = w0 at *
  generalize wn.heap.size = g5 at *
  go_upto_region 6 with fail
  go_wp2_with fail
  go_loopw [7] (fun s7 wr => ∃ (i : Nat) (M : MacV) (X : Tr), i ≤ keys ∧ s7 = .int .i64 (i : Int) ∧ OneI wr g5 M X ∧ MacAll M ∧ Below w.heap.size w wr) (fun s7 _ => keys - (intOf s7).toNat)
  case atStart => exact ⟨0, M0, .nil, by omega, rfl, HI0.out, Hall0.out.1, HB0.out.1⟩
  case round =>
    obtain ⟨i, M, X, hi, rfl, hI, hM, hbel⟩ := hrel
    clear HI0 Hall0
    have HI := Lib.hid hI; clear hI
    have HM := Lib.hid hM; clear hM
    have Hbel := Lib.hid (And.intro hbel HB0.out.2); clear hbel HB0
    have hw3 : IntKind.i64.wrap (keys : Int) = (keys : Int) := IntWalk.i64_in _ (by omega)
    by_cases hlt : i < keys
    · have hlt' : (i : Int) < (keys : Int) := by omega
      have hsucc := tsucc (n := i) (by omega)
      go_upto_region 9 with fail
      refine short_reg9 wr g5 i M X HI HM (by omega) _ _ _ _ _ _ _ _ _ _ _ _ _ _ _ _ _ _ _ _ _ _ _ _ _ _ _ _ _ _ _ _ _ _ _ _ _ _ _ _ _ _ _ _ _ _ _ _ _ _ _ _ _ _ _ _ _ _ _ _ _ _ _ _ _ _ _ _ _ _ _ _ _ _ _ _ _ _ _ _ _ _ _ _ _ _ _ _ _ _ _ _ _ _ _ _ _ _ _ _ _ _ _ _ _ _ _ _ _ _ _ _ _ _ _ _ _ _ _ _ _ _ _ _ _ _ _ (Lib.hid ?_)
      intro s40 s41 s42 s43 s44 s45 s46 s47 s48 s49 s50 s51 s52 s53 M2 Z y w2 hE
      have hr : OneI w2 g5 M2 Z ∧ Below w.heap.size w w2 := by
        obtain ⟨e1, e2, e3, e4, e5, e6⟩ := hE
        obtain ⟨s1, s2, s3, s4⟩ := ma_st (HI.out.a.below e3) M2 Z.ptr
        rw [e6]
        exact ⟨⟨s1, s4 _ e4, e5⟩, s3 _ _ (Hbel.out.1.trans (e3.mono Hbel.out.1.size)) Hbel.out.2⟩
      have HR := Lib.hid (And.intro hr hE.1)
      clear hE hr HI HM
      go_wp2_with fail
      go_roundw
      case rel => exact ⟨i + 1, M2, Z, hlt, rfl, HR.out.1.1, HR.out.2, HR.out.1.2⟩
      case measure => simp [intOf]; omega
    · have hlt' : ¬ (i : Int) < (keys : Int) := by omega
      clear hw3 hlt hi
      obtain ⟨P1, hP1⟩ : ∃ P, X.ptr = P := ⟨_, rfl⟩
      obtain ⟨⟨m0, m1, m14⟩, ⟨m2, m3, m4⟩, ⟨m5, m6, m7⟩, ⟨m8, m9, m10⟩, ⟨m11, m12, m13⟩⟩ := HI.out.a.cells
      rw [hP1] at m14
      have hmm := @run_makeMap Try.prog
      go_upto_region 11 with fail
      change Code.wp _ _ _ _ (wr.alloc (.cells (macCells M P1).toArray 69))
      rw [← hP1]
      clear m0 m1 m2 m3 m4 m5 m6 m7 m8 m9 m10 m11 m12 m13 m14
      have hba := (Below.refl wr.heap.size wr).alloc (Nat.le_refl _) (.cells (macCells M X.ptr).toArray 69)
      have HI2 := Lib.hid (HI.out.below hba)
      have HN2 := Lib.hid (show OneI (wr.alloc (.cells (macCells M X.ptr).toArray 69)) wr.heap.size M X from ⟨heap_alloc_new _ _, HI.out.t.below hba, HI.out.s⟩)
      have Hb2 := Lib.hid (And.intro (Hbel.out.1.trans (hba.mono Hbel.out.1.size)) (And.intro Hbel.out.2 HI.out.a.lt))
      clear hba HI Hbel hP1
      generalize wr.alloc (.cells (macCells M X.ptr).toArray 69) = w2 at *
      generalize wr.heap.size = g8 at *
      go_upto_region 13 with fail
      have hS : ShI w ((w2.alloc (.map #[] 0)).alloc (.map #[] 0)) g5 g8 w2.heap.size (w2.alloc (.map #[] 0)).heap.size M M X X [] [] := by
        have b1 := (Below.refl w2.heap.size w2).alloc (Nat.le_refl _) (.map #[] 0)
        have b2 := (Below.refl (w2.alloc (.map #[] 0)).heap.size (w2.alloc (.map #[] 0))).alloc (Nat.le_refl _) (.map #[] 0)
        have b12 := b1.trans (b2.mono b1.size)
        exact ⟨HI2.out.below b12, HN2.out.below b12, (MapAt.made kCl w2).below _ b2, MapAt.made kNm _, Hb2.out.1.trans (b12.mono Hb2.out.1.size), Hb2.out.2.1, Hb2.out.2.2, HN2.out.a.lt, by rw [World.size_alloc]; omega⟩
      have HS := Lib.hid hS; clear hS HI2 HN2 Hb2 hmm
      rw [World.size_alloc] at HS
      change Code.wp _ _ _ _ ((w2.alloc (.map #[] 0)).alloc (.map #[] 0))
      generalize (w2.alloc (.map #[] 0)).alloc (.map #[] 0) = w4 at *
      generalize w2.heap.size = B9 at *
      have HM2 := Lib.hid (And.intro HM.out (And.intro HM.out (Few.same M)))
      go_wp2_with fail
      go_loopw [11] (fun s11 wr => ∃ (j : Nat) (N : MacV) (Y : Tr) (cl : List (UInt8 × Value)) (kl : List (ByteArray × Value)), j ≤ l1 ∧ s11 = .int .i64 (j : Int) ∧ ShI w wr g5 g8 B9 (B9 + 1) M N X Y cl kl ∧ MacAll N ∧ M.all = N.all ∧ Few M N (cl.map (·.1)) (kl.map (·.1)) ∧ cl.length ≤ j ∧ kl.length ≤ j) (fun s11 _ => l1 - (intOf s11).toNat)
      case atStart => exact ⟨0, M, X, [], [], by omega, rfl, HS.out, HM.out, rfl, Few.same M, Nat.le_refl _, Nat.le_refl _⟩
      case round =>
        obtain ⟨j, N, Y, cl, kl, hj, rfl, hS, hN, hall, hfew, hcl, hkl⟩ := hrel
        clear HS HM2
        have HS := Lib.hid hS; clear hS
        have HN := Lib.hid (And.intro hN (And.intro hall hfew)); clear hN hall hfew
        have Hlen := Lib.hid (And.intro hcl hkl); clear hcl hkl
        by_cases hlt : j < l1
        · have hlt' : (j : Int) < (l1 : Int) := by omega
          have hsucc := tsucc (n := j) (by omega)
          obtain ⟨b, o, rfl, hbl, hcs⟩ := cmd_stay (H1.out.below HS.out.bel) hlt
          obtain ⟨c, hc⟩ : ∃ c, z1.getD j default = c := ⟨_, rfl⟩
          rw [hc] at hcs
          have Hcs := Lib.hid (And.intro hcs hbl); clear hcs hc hbl
          go_upto_region 16 with fail
          refine short_reg16 wr g8 b o l1 cap1 j N Y c (fun _ _ d _ _ h => by cases d <;> exact h) (Lib.hid HS.out.n) (Lib.hid HN.out.1) hlt' (Lib.hid Hcs.out.1) _ _ _ _ _ _ _ _ _ _ _ _ _ _ _ _ _ _ _ _ _ _ _ _ _ _ _ _ _ _ _ _ _ _ _ _ _ _ _ _ _ _ _ _ _ _ _ _ _ _ _ _ _ _ _ _ _ _ _ _ _ _ _ _ _ _ _ _ _ _ _ _ _ _ _ _ _ _ _ _ _ _ _ _ _ _ _ _ _ _ _ _ _ _ _ _ _ _ _ _ _ _ _ _ _ _ _ _ _ _ _ _ _ _ _ _ _ _ _ _ _ _ _ _ _ _ (Lib.hid ?_)
          intro s63 s64 s65 s66 s67 s68 s69 s70 s71 s72 Z y w5 hE
          have HS5 := Lib.hid (show ShI w w5 g5 g8 B9 (B9 + 1) M (macDo N c).m X Z cl kl by rw [hE.2.2.2]; exact HS.out.setN hE.1 hE.2.1 hE.2.2.1)
          have hlo : b < w.heap.size := H1lo.out b o rfl (by omega)
          obtain ⟨n1, n2, n3, n4⟩ := HS.out.ne
          have hcell : ∀ q : Nat, w5.cell? ⟨b, q, none⟩ = y.cell? ⟨b, q, none⟩ := fun q => by
            rw [hE.2.2.2]
            exact cell_row_other (show b ≠ g8 by omega) _ _
          obtain ⟨f0, f1, f2, f3, f4, f5, f6⟩ := Hcs.out.1 y hE.1
          rw [← hcell] at f0 f3
          clear f1 f2 f4 f5 f6
          have hb5 := hE.1
          clear hE hcell HS
          obtain ⟨w6, hu, hc6, hg6, -⟩ := run_update_at kCl HS5.out.c (t := 101) (E := 4) Try.underlying101 (UInt8.ofNat c.client.toNat) (.bool true)
          have hv : (Instr.mapUpdate 101 (.map (some B9)) (.int .u8 (c.client.toNat : Int)) (.bool true)).run Try.prog w5 = .ok () w6 := by
            have e : ((UInt8.ofNat c.client.toNat).toNat : Int) = (c.client.toNat : Int) := by simp
            have e2 : kCl.enc (UInt8.ofNat c.client.toNat) = .int .u8 (c.client.toNat : Int) := by show Value.int .u8 ((UInt8.ofNat c.client.toNat).toNat : Int) = _; rw [e]
            rw [e2] at hu
            exact hu
          clear hu
          have f3' : w6.cell? ⟨b, o + j * 7 + 3, none⟩ = some (.string c.key) := by
            rw [← f3]
            exact cell_grown hg6 (Nat.lt_of_lt_of_le hlo HS5.out.bel.size) (by omega)
          have HS6 := Lib.hid (HS5.out.setC hg6 hc6)
          clear HS5 hc6 hg6 f3 hlo n1 n2 n3 n4
          go_upto_region 18 with fail
          clear f0 hv
          obtain ⟨w7, hu, hk7, hg7, -⟩ := run_update_at kNm HS6.out.k (t := 102) (E := 4) Try.underlying102 c.key (.bool true)
          have hv : (Instr.mapUpdate 102 (.map (some (B9 + 1))) (.string c.key) (.bool true)).run Try.prog w6 = .ok () w7 := hu
          clear hu
          obtain ⟨c1, c2, c3⟩ := mput_keys cl (UInt8.ofNat c.client.toNat) (Value.bool true)
          obtain ⟨k1, k2, k3⟩ := mput_keys kl c.key (Value.bool true)
          have HS7 := Lib.hid (HS6.out.setK hg7 hk7)
          have HN7 := Lib.hid (show MacAll (macDo N c).m ∧ M.all = (macDo N c).m.all ∧ Few M (macDo N c).m ((mput cl (UInt8.ofNat c.client.toNat) (Value.bool true)).map (·.1)) ((mput kl c.key (Value.bool true)).map (·.1)) ∧ (mput cl (UInt8.ofNat c.client.toNat) (Value.bool true)).length ≤ j + 1 ∧ (mput kl c.key (Value.bool true)).length ≤ j + 1 from
            ⟨macDo_all HN.out.1 c, HN.out.2.1.trans (nodes_do N c).symm, (HN.out.2.2.more c1 k1).step HN.out.1 c c2 k2, by have := Hlen.out.1; omega, by have := Hlen.out.2; omega⟩)
          clear HS6 hk7 hg7 c1 c2 c3 k1 k2 k3 HN Hlen
          go_wp2_with fail
          go_roundw
          case rel => exact ⟨j + 1, _, Z, _, _, hlt, rfl, HS7.out, HN7.out.1, HN7.out.2.1, HN7.out.2.2.1, HN7.out.2.2.2.1, HN7.out.2.2.2.2⟩
          case measure => simp [intOf]; omega
        · have hlt' : ¬ (j : Int) < (l1 : Int) := by omega
          have hsh := short_len HM.out HN.out.1 HN.out.2.2 (by rw [List.length_map]; have := Hlen.out.2; omega)
          have hlg := diffM_long M N
          have hnn := short_none HN.out.1
          rw [List.length_map, List.length_map] at hsh
          go_upto_region 19 with fail
          refine short_reg19 wr g5 g8 M N X Y (Lib.hid (HS.out.m.two HS.out.n)) (Lib.hid ⟨HM.out, HN.out.1, HN.out.2.1⟩) _ _ _ _ _ _ _ _ _ _ _ _ _ _ _ _ _ _ _ _ _ _ _ _ _ _ _ _ _ _ _ _ _ _ _ _ _ _ _ _ _ _ _ _ _ _ _ _ _ _ _ _ _ _ _ _ _ _ _ _ _ _ _ _ _ _ _ _ _ _ _ _ _ _ _ _ _ _ _ _ _ _ _ _ _ _ _ _ _ _ _ _ _ _ _ _ _ _ _ _ _ _ _ _ _ _ _ _ _ _ _ _ _ _ _ _ _ _ _ _ _ _ _ _ _ _ _ (Lib.hid ?_)
          intro s85 s86 s87 s88 wa hb
          have HS2 := Lib.hid (HS.out.below hb)
          clear HS hb
          go_upto_region 20 with fail
          refine short_reg20 wa g8 N Y (Lib.hid HS2.out.n) (Lib.hid HN.out.1) _ _ _ _ _ _ _ _ _ _ _ _ _ _ _ _ _ _ _ _ _ _ _ _ _ _ _ _ _ _ _ _ _ _ _ _ _ _ _ _ _ _ _ _ _ _ _ _ _ _ _ _ _ _ _ _ _ _ _ _ _ _ _ _ _ _ _ _ _ _ _ _ _ _ _ _ _ _ _ _ _ _ _ _ _ _ _ _ _ _ _ _ _ _ _ _ _ _ _ _ _ _ _ _ _ _ _ _ _ _ _ _ _ _ _ _ _ _ _ _ _ _ _ _ _ _ _ _ (Lib.hid ?_)
          intro s91 s92 s93 s94 wb hb
          have HS3 := Lib.hid (HS2.out.below hb)
          clear HS2 hb
          obtain ⟨S1, hS1⟩ : ∃ S : ByteArray, (⟨(diffM M N).toArray⟩ : ByteArray) = S := ⟨_, rfl⟩
          obtain ⟨S2, hS2⟩ : ∃ S : ByteArray, (⟨(diffM N N).toArray⟩ : ByteArray) = S := ⟨_, rfl⟩
          have hz1 : (19 : Int) ≤ (S1.size : Int) := by rw [← hS1]; exact Int.ofNat_le.2 hlg
          have hz2 : (S2.size : Int) = 19 := by rw [← hS2]; exact congrArg (fun n : Nat => (n : Int)) hnn
          have hle : (S1.size : Int) ≤ 19 + 72 * (cl.length : Int) + 83 * (kl.length : Int) := by
            have : S1.size ≤ 19 + 72 * cl.length + 83 * kl.length := by rw [← hS1]; exact hsh
            omega
          rw [hS1, hS2]
          clear hS1 hS2 hsh hlg hnn
          go_upto_region 21 with fail
          refine short_reg21 wb B9 (B9 + 1) cl kl S1 S2 (Lib.hid ⟨HS3.out.c, HS3.out.k⟩) hz2 hz1 (by have := Hlen.out.1; omega) (by have := Hlen.out.2; omega) hle _ _ _ _ _ _ _ _ _ _ _ _ _ _ _ _ _ _ _ _ _ _ _ _ _ _ _ _ _ _ _ _ _ _ _ _ _ _ _ _ _ _ _ _ _ _ _ _ _ _ _ _ _ _ _ _ _ _ _ _ _ _ _ _ _ _ _ _ _ _ _ _ _ _ _ _ _ _ _ _ _ _ _ _ _ _ _ _ _ _ _ _ _ _ _ _ _ _ _ _ _ _ _ _ _ _ _ _ _ _ _ _ _ _ _ _ _ _ _ _ _ _ _ (Lib.hid ?_)
          intro s97 s98 s99 s100 s101 s102 s103 s104 s105 s106 s107 s108 s109 s110 s111 s112 s113 s114 s115 s116 s117 s118 s119 s120 s121 s122 s123 s124 s125 s126 s127 wc hb
          have Hend := Lib.hid (HS3.out.bel.trans (hb.mono HS3.out.bel.size))
          clear HS3 hb
          go_wp2_with fail
          go_ret
          exact ⟨rfl, Hend.out⟩
end Go.Proofs.Ytkngadbeflepoaa
namespace Go.Proofs.Ytkngadbeflepoaa
open Go.RowKit
theorem deltaShort_row (n0 : Int) (a1 : Option Addr) (l1 cap1 : Nat) (z1 : List CmdV) {w : World} (f0 : (Lit.int .u8 n0).wf = true) (h1 : CmdsAt w a1 l1 z1) (_W : World) :
    Calls Try.prog 10 #[.int .u8 n0, .slice a1 l1 cap1] w fun e w' => e = .returned (.bool true) ∧ Below w.heap.size w w' := by
  obtain ⟨x0, rfl⟩ := tr_u8 f0
  exact deltaShort_any x0.toNat x0.isLt a1 l1 cap1 z1 w h1
end Go.Proofs.Ytkngadbeflepoaa
