/- Machines: law13's wakes, its last two commands. No condition. -/
import Derived.Test.YtkngadbeflepoaaMMachineBack18
import Derived.Test.YtkngadbeflepoaaMMachineBack6
namespace Go.Proofs.Ytkngadbeflepoaa
open Go.RowKit

/-- What stands behind the first n statements. -/
def dropC : Nat → Code → Code
  | 0, c => c
  | n + 1, .seq _ b => dropC n b
  | _, c => c
set_option maxRecDepth 100000 in
set_option maxHeartbeats 16000000 in
theorem mwakes_tail (w w3 : World) (gm gr1 gr2 gr3 : Nat) (X3 : Tr) (P3 : Option Addr) (HLow : Hid (w.heap.size ≤ gm))
    (HSm_3 : Hid (MacAt w3 gm mw3.m P3)) (HTm_3 : Hid (TreeAt w3 X3)) (HEm_3 : Hid (X3.ptr = P3 ∧ X3.sh = mw3.m.sh)) (HB3 : Hid (Below w.heap.size w w3)) (HRr0_1_2_3 : Hid (RepAt w3 gr1 0 ByteArray.empty ∧ gm < gr1)) (HRr1_2_3 : Hid (RepAt w3 gr2 2 ByteArray.empty ∧ gm < gr2)) (HRr2_3 : Hid (RepAt w3 gr3 2 ByteArray.empty ∧ gm < gr3)) (u13 u14 u15 u16 u17 u18 u19 u20 u21 u22 u23 u24 u25 u26 u27 u28 u29 u30 u31 u32 u33 u34 u35 u36 u37 u38 u39 u40 u41 u42 u43 u44 u45 u46 u47 u48 u49 u50 u51 u52 u53 u54 u55 u56 u57 u58 u59 u60 u61 u62 u63 u64 u65 u66 u67 u68 u69 u70 u71 u72 u73 u74 u75 u76 u77 u78 u79 u80 u81 u82 u83 u84 u85 u86 u87 u88 u89 u90 u91 u92 u93 u94 u95 u96 u97 u98 : Value) :
    Code.wp Try.prog (dropC 5 (Try.f30.body.getD .skip)) (bodyPost Try.prog Try.f30 fun e w' => e = .returned (.bool true) ∧ Below w.heap.size w w') ⟨List.toArray (Value.bool false :: .pointer (some ⟨gm,0,none⟩) :: .int .i64 0 :: .pointer (some ⟨gr1,0,none⟩) :: .bool true :: .pointer (some ⟨gr2,0,none⟩) :: .bool true :: .pointer (some ⟨gr3,0,none⟩) :: .bool false :: undef :: undef :: undef :: undef :: u13 :: u14 :: u15 :: u16 :: u17 :: u18 :: u19 :: u20 :: u21 :: u22 :: u23 :: u24 :: u25 :: u26 :: u27 :: u28 :: u29 :: u30 :: u31 :: u32 :: u33 :: u34 :: u35 :: u36 :: u37 :: u38 :: u39 :: u40 :: u41 :: u42 :: u43 :: u44 :: u45 :: u46 :: u47 :: u48 :: u49 :: u50 :: u51 :: u52 :: u53 :: u54 :: u55 :: u56 :: u57 :: u58 :: u59 :: u60 :: u61 :: u62 :: u63 :: u64 :: u65 :: u66 :: u67 :: u68 :: u69 :: u70 :: u71 :: u72 :: u73 :: u74 :: u75 :: u76 :: u77 :: u78 :: u79 :: u80 :: u81 :: u82 :: u83 :: u84 :: u85 :: u86 :: u87 :: u88 :: u89 :: u90 :: u91 :: u92 :: u93 :: u94 :: u95 :: u96 :: u97 :: u98 :: []), []⟩ w3 := by
  conv => arg 2; whnf
  go_upto_region 5 with fail
  go_cut [9, 10] (fun sr sf wx => ∃ (gr : Nat) (X : Tr) (P : Option Addr), sr = .pointer (some ⟨gr, 0, none⟩) ∧ sf = .bool false ∧ MacAt wx gm mw4.m P ∧ TreeAt wx X ∧ (X.ptr = P ∧ X.sh = mw4.m.sh) ∧ (RepAt wx gr 3 ByteArray.empty ∧ gm < gr) ∧ Below w.heap.size w wx ∧ RepAt wx gr1 0 ByteArray.empty ∧ RepAt wx gr2 2 ByteArray.empty ∧ RepAt wx gr3 2 ByteArray.empty)
  case first =>
    refine (wpIn_wide (n := 1)).1 ?_
    refine RegL.wpIn_region_lays (F := Fence.wide) (KeptW w3) [⟨7, 9, .cells (repCells 0 ByteArray.empty).toArray 51 (0, 0)⟩] [(0, 0), (1, 1), (2, 1), (3, 2), (4, 2), (5, 2), (6, 2), (8, 3), (9, 3), (10, 3)] (by kernel_rfl) (by kernel_rfl) (by kernel_rfl) (fun p hp => by rw [List.mem_singleton] at hp; subst hp; exact lays_any layRep rfl)
      (fun _ _ d _ _ h => by cases d <;> exact h) (fun _ _ d _ _ h => by cases d <;> exact h) ⟨rfl, rfl, rfl, Nat.le_refl _, fun _ _ => rfl⟩ (keptW_mono w3) ?_
    dsimp only [RegK.pick, List.getElem?_cons_zero, List.getElem?_cons_succ]
    obtain ⟨S4, hS4⟩ : ∃ V, macV mw3.m P3 = V := ⟨_, rfl⟩
    have HV4 := Lib.hid hS4; clear hS4
    refine RegL.reads ?_
    intro K hK
    go_simp
    refine ⟨S4, fun y hy => ?_, hK _ ?_⟩
    · rw [← HV4.out]
      unfold macV
      rw [mac_eta mw3.m P3]
      obtain ⟨⟨m0, m1, m14⟩, ⟨m2, m3, m4⟩, ⟨m5, m6, m7⟩, ⟨m8, m9, m10⟩, ⟨m11, m12, m13⟩⟩ := (HSm_3.out.below (KeptW.bel hy)).cells
      go_simp
    clear hK K
    refine RegL.adds (fun _ => trivial) ?_
    go_simp
    intro x hx K hK
    refine ⟨trivial, ?_⟩
    refine (callsIn_wide.2 (show Calls Try.prog 58 #[.int .u32 1, .int .u8 1, .string { data := #[97] }, .int .u8 0] x (fun e w' => e = .returned (.agg (cmdCells (of13 1#32 1 mwA 0#8)).toArray) ∧ Below x.heap.size x w') from of13_any 1#32 1 mwA 0#8 x)).mono ?_
    rintro e xb4 ⟨rfl, hb⟩
    have hxb : KeptW w3 xb4 := KeptW.mono hx hb
    refine hK (KeptW xb4) _ _ hb (fun y h => KeptW.mono hxb (KeptW.bel h)) (keptW_mono xb4) (Below.refl _ _) ?_
    clear hK K hb hx
    refine RegL.adds (fun _ => trivial) ?_
    go_simp
    intro x hx K hK
    refine ⟨trivial, ?_⟩
    have hxk : KeptW w3 x := KeptW.mono hxb (KeptW.bel hx)
    have hd := mdo_any (of13 1#32 1 mwA 0#8) mw3.m X3 x mw_all.2.2.2.1 (HTm_3.out.below (KeptW.bel hxk)) HEm_3.out.2 (by rw [sh_cnt, HEm_3.out.2]; have := mw_cnt.2.2.2.1; omega)
    rw [HEm_3.out.1, show macDo mw3.m (of13 1#32 1 mwA 0#8) = mw4 from rfl, mw4_is.1, mw4_is.2.1, mw4_is.2.2, HV4.out] at hd
    unfold repV repCells at hd
    refine (callsIn_wide.2 hd).mono ?_
    clear hd
    rintro e xc4 ⟨X4, rfl, hX⟩
    have hxc : KeptW w3 xc4 := KeptW.mono hxk hX.bel
    refine hK (KeptW xc4) _ _ hX.bel (fun y h => KeptW.mono (KeptW.mono hx hX.bel) (KeptW.bel h)) (keptW_mono xc4) (Below.refl _ _) ?_
    have HX4 := Lib.hid (And.intro hX.at_ hX.shp)
    clear hK K hX hx hxk hxb HV4
    obtain ⟨P4, hP4⟩ : ∃ P, X4.ptr = P := ⟨_, rfl⟩
    rw [hP4]
    have HP4 := Lib.hid hP4; clear hP4
    obtain ⟨V4, hV4⟩ : ∃ V, macV mw4.m P4 = V := ⟨_, rfl⟩
    rw [hV4]
    have HV4 := Lib.hid hV4; clear hV4
    iterate 4 (refine RegL.pures ?_; intro K hK; go_simp; (first | (refine ⟨_, fun _ => rfl, hK _ ?_⟩) | (refine hK _ ?_)); clear hK K)
    refine RegL.last ?_
    intro g y hF hy
    have hyk : KeptW w3 y := KeptW.mono hxc (KeptW.bel hy)
    obtain ⟨hg1, hg2⟩ := hF.1 ⟨7, 9, .cells (repCells 0 ByteArray.empty).toArray 51 (0, 0)⟩ (by simp) rfl
    have hr : RepAt y (g 7) 0 ByteArray.empty := hg1
    have hrl : w3.heap.size ≤ g 7 := hg2
    have hs := HSm_3.out.below (KeptW.bel hyk)
    have hne : g 7 ≠ gm := by have := HSm_3.out.lt; omega
    simp only [RegL.putS, RegL.ptr, if_true]
    clear hF hg1 hg2
    generalize g 7 = gr4 at *
    have hr2 : RepAt (rowSt y gm 0 (macCells mw4.m P4)) gr4 0 ByteArray.empty := (rowSt_other hne _ _ _).trans hr
    obtain ⟨f2, f3⟩ := hr2.cells
    have f4 := hr2.thawed 0
    have f5 := hr2.thawed 1
    have HZ4 := Lib.hid (ma_end hs hr hne mw4.m P4 3 ByteArray.empty)
    obtain ⟨q0, q1⟩ := mac_store hs HV4.out
    simp only [Value.cells] at q0 q1
    clear hs hr hr2
    generalize hwr : rowSt y gm 0 (macCells mw4.m P4) = wr at *
    refine RegK.can_frees (fun _ => trivial) ?_
    intro K K0 hK hK0
    go_simp
    refine hK (fun _ => True) _ _ trivial ?_
    clear hK K hK0 K0 q0 q1
    refine RegK.can_frees (fun _ => trivial) ?_
    intro K K0 hK hK0
    go_simp
    refine hK (fun _ => True) _ _ trivial ?_
    clear hK K hK0 K0
    refine RegK.can_frees (fun _ => trivial) ?_
    intro K K0 hK hK0
    go_simp
    refine hK (fun _ => True) _ _ trivial ?_
    clear hK K hK0 K0
    refine RegK.can_nil ?_
    clear f2 f3 f4 f5 HV4
    change Exit.then _ _ _ _ (repSt wr gr4 3 ByteArray.empty)
    rw [← hwr]
    clear hwr
    change Exit.then _ _ _ _ (maW y gm gr4 mw4.m P4 3 ByteArray.empty)
    generalize maW y gm gr4 mw4.m P4 3 ByteArray.empty = w4 at *
    have HRr0_1_2_3_4 := Lib.hid (And.intro (show RepAt w4 gr1 0 ByteArray.empty from (HZ4.out.oth _ (by have := HRr0_1_2_3.out.2; omega) (by have := HRr0_1_2_3.out.1.lt; omega)).trans (HRr0_1_2_3.out.1.below (KeptW.bel hyk))) HRr0_1_2_3.out.2)
    have HRr1_2_3_4 := Lib.hid (And.intro (show RepAt w4 gr2 2 ByteArray.empty from (HZ4.out.oth _ (by have := HRr1_2_3.out.2; omega) (by have := HRr1_2_3.out.1.lt; omega)).trans (HRr1_2_3.out.1.below (KeptW.bel hyk))) HRr1_2_3.out.2)
    have HRr2_3_4 := Lib.hid (And.intro (show RepAt w4 gr3 2 ByteArray.empty from (HZ4.out.oth _ (by have := HRr2_3.out.2; omega) (by have := HRr2_3.out.1.lt; omega)).trans (HRr2_3.out.1.below (KeptW.bel hyk))) HRr2_3.out.2)
    have HSm_4 := Lib.hid HZ4.out.st
    have HTm_4 := Lib.hid (HZ4.out.tree _ (HX4.out.1.below (KeptW.bel hy)))
    have HEm_4 := Lib.hid (And.intro HP4.out HX4.out.2)
    have HRr3_4 := Lib.hid (And.intro HZ4.out.rep (show gm < gr4 by have := HSm_3.out.lt; omega))
    have HB4 := Lib.hid (HZ4.out.bel _ _ (HB3.out.trans (Below.mono (KeptW.bel hyk) HB3.out.size)) (by have := HB3.out.size; have := HLow.out; omega) (by have := HB3.out.size; omega))
    clear HRr0_1_2_3 HRr1_2_3 HRr2_3 HB3 HZ4 HX4 HP4 HSm_3 HTm_3 HEm_3 hyk hy hne hrl hxc
    go_wp2_with fail
    go_meet
    exact ⟨gr4, X4, P4, rfl, rfl, HSm_4.out, HTm_4.out, HEm_4.out, HRr3_4.out, HB4.out, HRr0_1_2_3_4.out.1, HRr1_2_3_4.out.1, HRr2_3_4.out.1⟩
  case rest =>
  obtain ⟨gr4, X4, P4, rfl, rfl, hs, ht, he, hr, hb, hrr0_4, hrr1_4, hrr2_4⟩ := hcut
  have HSm_4 := Lib.hid hs; have HTm_4 := Lib.hid ht; have HEm_4 := Lib.hid he; have HRr3_4 := Lib.hid hr; have HB4 := Lib.hid hb; have HRr0_1_2_3_4 := Lib.hid (And.intro hrr0_4 HRr0_1_2_3.out.2); have HRr1_2_3_4 := Lib.hid (And.intro hrr1_4 HRr1_2_3.out.2); have HRr2_3_4 := Lib.hid (And.intro hrr2_4 HRr2_3.out.2)
  clear hs ht he hr hb hrr0_4 hrr1_4 hrr2_4 HRr0_1_2_3 HRr1_2_3 HRr2_3 HSm_3 HTm_3 HEm_3 HB3
  generalize wc = w4 at *
  go_upto_region 6 with fail
  go_cut [11, 12] (fun sr sf wx => ∃ (gr : Nat) (X : Tr) (P : Option Addr), sr = .pointer (some ⟨gr, 0, none⟩) ∧ sf = .bool true ∧ MacAt wx gm mw5.m P ∧ TreeAt wx X ∧ (X.ptr = P ∧ X.sh = mw5.m.sh) ∧ (RepAt wx gr 1 ByteArray.empty ∧ gm < gr) ∧ Below w.heap.size w wx ∧ RepAt wx gr1 0 ByteArray.empty ∧ RepAt wx gr2 2 ByteArray.empty ∧ RepAt wx gr3 2 ByteArray.empty ∧ RepAt wx gr4 3 ByteArray.empty)
  case first =>
    refine (wpIn_wide (n := 1)).1 ?_
    refine RegL.wpIn_region_lays (F := Fence.wide) (KeptW w4) [⟨7, 11, .cells (repCells 0 ByteArray.empty).toArray 51 (0, 0)⟩] [(0, 0), (1, 1), (2, 1), (3, 2), (4, 2), (5, 2), (6, 2), (8, 3), (9, 3), (10, 3)] (by kernel_rfl) (by kernel_rfl) (by kernel_rfl) (fun p hp => by rw [List.mem_singleton] at hp; subst hp; exact lays_any layRep rfl)
      (fun _ _ d _ _ h => by cases d <;> exact h) (fun _ _ d _ _ h => by cases d <;> exact h) ⟨rfl, rfl, rfl, Nat.le_refl _, fun _ _ => rfl⟩ (keptW_mono w4) ?_
    dsimp only [RegK.pick, List.getElem?_cons_zero, List.getElem?_cons_succ]
    obtain ⟨S5, hS5⟩ : ∃ V, macV mw4.m P4 = V := ⟨_, rfl⟩
    have HV5 := Lib.hid hS5; clear hS5
    refine RegL.reads ?_
    intro K hK
    go_simp
    refine ⟨S5, fun y hy => ?_, hK _ ?_⟩
    · rw [← HV5.out]
      unfold macV
      rw [mac_eta mw4.m P4]
      obtain ⟨⟨m0, m1, m14⟩, ⟨m2, m3, m4⟩, ⟨m5, m6, m7⟩, ⟨m8, m9, m10⟩, ⟨m11, m12, m13⟩⟩ := (HSm_4.out.below (KeptW.bel hy)).cells
      go_simp
    clear hK K
    refine RegL.adds (fun _ => trivial) ?_
    go_simp
    intro x hx K hK
    refine ⟨trivial, ?_⟩
    refine (callsIn_wide.2 (show Calls Try.prog 58 #[.int .u32 3, .int .u8 1, .string { data := #[97] }, .int .u8 0] x (fun e w' => e = .returned (.agg (cmdCells (of13 3#32 1 mwA 0#8)).toArray) ∧ Below x.heap.size x w') from of13_any 3#32 1 mwA 0#8 x)).mono ?_
    rintro e xb5 ⟨rfl, hb⟩
    have hxb : KeptW w4 xb5 := KeptW.mono hx hb
    refine hK (KeptW xb5) _ _ hb (fun y h => KeptW.mono hxb (KeptW.bel h)) (keptW_mono xb5) (Below.refl _ _) ?_
    clear hK K hb hx
    refine RegL.adds (fun _ => trivial) ?_
    go_simp
    intro x hx K hK
    refine ⟨trivial, ?_⟩
    have hxk : KeptW w4 x := KeptW.mono hxb (KeptW.bel hx)
    have hd := mdo_any (of13 3#32 1 mwA 0#8) mw4.m X4 x mw_all.2.2.2.2.1 (HTm_4.out.below (KeptW.bel hxk)) HEm_4.out.2 (by rw [sh_cnt, HEm_4.out.2]; have := mw_cnt.2.2.2.2.1; omega)
    rw [HEm_4.out.1, show macDo mw4.m (of13 3#32 1 mwA 0#8) = mw5 from rfl, mw5_is.1, mw5_is.2.1, mw5_is.2.2, HV5.out] at hd
    unfold repV repCells at hd
    refine (callsIn_wide.2 hd).mono ?_
    clear hd
    rintro e xc5 ⟨X5, rfl, hX⟩
    have hxc : KeptW w4 xc5 := KeptW.mono hxk hX.bel
    refine hK (KeptW xc5) _ _ hX.bel (fun y h => KeptW.mono (KeptW.mono hx hX.bel) (KeptW.bel h)) (keptW_mono xc5) (Below.refl _ _) ?_
    have HX5 := Lib.hid (And.intro hX.at_ hX.shp)
    clear hK K hX hx hxk hxb HV5
    obtain ⟨P5, hP5⟩ : ∃ P, X5.ptr = P := ⟨_, rfl⟩
    rw [hP5]
    have HP5 := Lib.hid hP5; clear hP5
    obtain ⟨V5, hV5⟩ : ∃ V, macV mw5.m P5 = V := ⟨_, rfl⟩
    rw [hV5]
    have HV5 := Lib.hid hV5; clear hV5
    iterate 4 (refine RegL.pures ?_; intro K hK; go_simp; (first | (refine ⟨_, fun _ => rfl, hK _ ?_⟩) | (refine hK _ ?_)); clear hK K)
    refine RegL.last ?_
    intro g y hF hy
    have hyk : KeptW w4 y := KeptW.mono hxc (KeptW.bel hy)
    obtain ⟨hg1, hg2⟩ := hF.1 ⟨7, 11, .cells (repCells 0 ByteArray.empty).toArray 51 (0, 0)⟩ (by simp) rfl
    have hr : RepAt y (g 7) 0 ByteArray.empty := hg1
    have hrl : w4.heap.size ≤ g 7 := hg2
    have hs := HSm_4.out.below (KeptW.bel hyk)
    have hne : g 7 ≠ gm := by have := HSm_4.out.lt; omega
    simp only [RegL.putS, RegL.ptr, if_true]
    clear hF hg1 hg2
    generalize g 7 = gr5 at *
    have hr2 : RepAt (rowSt y gm 0 (macCells mw5.m P5)) gr5 0 ByteArray.empty := (rowSt_other hne _ _ _).trans hr
    obtain ⟨f2, f3⟩ := hr2.cells
    have f4 := hr2.thawed 0
    have f5 := hr2.thawed 1
    have HZ5 := Lib.hid (ma_end hs hr hne mw5.m P5 1 ByteArray.empty)
    obtain ⟨q0, q1⟩ := mac_store hs HV5.out
    simp only [Value.cells] at q0 q1
    clear hs hr hr2
    generalize hwr : rowSt y gm 0 (macCells mw5.m P5) = wr at *
    refine RegK.can_frees (fun _ => trivial) ?_
    intro K K0 hK hK0
    go_simp
    refine hK (fun _ => True) _ _ trivial ?_
    clear hK K hK0 K0 q0 q1
    refine RegK.can_frees (fun _ => trivial) ?_
    intro K K0 hK hK0
    go_simp
    refine hK (fun _ => True) _ _ trivial ?_
    clear hK K hK0 K0
    refine RegK.can_frees (fun _ => trivial) ?_
    intro K K0 hK hK0
    go_simp
    refine hK (fun _ => True) _ _ trivial ?_
    clear hK K hK0 K0
    refine RegK.can_nil ?_
    clear f2 f3 f4 f5 HV5
    change Exit.then _ _ _ _ (repSt wr gr5 1 ByteArray.empty)
    rw [← hwr]
    clear hwr
    change Exit.then _ _ _ _ (maW y gm gr5 mw5.m P5 1 ByteArray.empty)
    generalize maW y gm gr5 mw5.m P5 1 ByteArray.empty = w5 at *
    have HRr0_1_2_3_4_5 := Lib.hid (And.intro (show RepAt w5 gr1 0 ByteArray.empty from (HZ5.out.oth _ (by have := HRr0_1_2_3_4.out.2; omega) (by have := HRr0_1_2_3_4.out.1.lt; omega)).trans (HRr0_1_2_3_4.out.1.below (KeptW.bel hyk))) HRr0_1_2_3_4.out.2)
    have HRr1_2_3_4_5 := Lib.hid (And.intro (show RepAt w5 gr2 2 ByteArray.empty from (HZ5.out.oth _ (by have := HRr1_2_3_4.out.2; omega) (by have := HRr1_2_3_4.out.1.lt; omega)).trans (HRr1_2_3_4.out.1.below (KeptW.bel hyk))) HRr1_2_3_4.out.2)
    have HRr2_3_4_5 := Lib.hid (And.intro (show RepAt w5 gr3 2 ByteArray.empty from (HZ5.out.oth _ (by have := HRr2_3_4.out.2; omega) (by have := HRr2_3_4.out.1.lt; omega)).trans (HRr2_3_4.out.1.below (KeptW.bel hyk))) HRr2_3_4.out.2)
    have HRr3_4_5 := Lib.hid (And.intro (show RepAt w5 gr4 3 ByteArray.empty from (HZ5.out.oth _ (by have := HRr3_4.out.2; omega) (by have := HRr3_4.out.1.lt; omega)).trans (HRr3_4.out.1.below (KeptW.bel hyk))) HRr3_4.out.2)
    have HSm_5 := Lib.hid HZ5.out.st
    have HTm_5 := Lib.hid (HZ5.out.tree _ (HX5.out.1.below (KeptW.bel hy)))
    have HEm_5 := Lib.hid (And.intro HP5.out HX5.out.2)
    have HRr4_5 := Lib.hid (And.intro HZ5.out.rep (show gm < gr5 by have := HSm_4.out.lt; omega))
    have HB5 := Lib.hid (HZ5.out.bel _ _ (HB4.out.trans (Below.mono (KeptW.bel hyk) HB4.out.size)) (by have := HB4.out.size; have := HLow.out; omega) (by have := HB4.out.size; omega))
    clear HRr0_1_2_3_4 HRr1_2_3_4 HRr2_3_4 HRr3_4 HB4 HZ5 HX5 HP5 HSm_4 HTm_4 HEm_4 hyk hy hne hrl hxc
    go_wp2_with fail
    go_meet
    exact ⟨gr5, X5, P5, rfl, rfl, HSm_5.out, HTm_5.out, HEm_5.out, HRr4_5.out, HB5.out, HRr0_1_2_3_4_5.out.1, HRr1_2_3_4_5.out.1, HRr2_3_4_5.out.1, HRr3_4_5.out.1⟩
  case rest =>
  obtain ⟨gr5, X5, P5, rfl, rfl, hs, ht, he, hr, hb, hrr0_5, hrr1_5, hrr2_5, hrr3_5⟩ := hcut
  have HSm_5 := Lib.hid hs; have HTm_5 := Lib.hid ht; have HEm_5 := Lib.hid he; have HRr4_5 := Lib.hid hr; have HB5 := Lib.hid hb; have HRr0_1_2_3_4_5 := Lib.hid (And.intro hrr0_5 HRr0_1_2_3_4.out.2); have HRr1_2_3_4_5 := Lib.hid (And.intro hrr1_5 HRr1_2_3_4.out.2); have HRr2_3_4_5 := Lib.hid (And.intro hrr2_5 HRr2_3_4.out.2); have HRr3_4_5 := Lib.hid (And.intro hrr3_5 HRr3_4.out.2)
  clear hs ht he hr hb hrr0_5 hrr1_5 hrr2_5 hrr3_5 HRr0_1_2_3_4 HRr1_2_3_4 HRr2_3_4 HRr3_4 HSm_4 HTm_4 HEm_4 HB4
  generalize wc = w5 at *
  obtain ⟨er00, er01⟩ := HRr0_1_2_3_4_5.out.1.cells
  obtain ⟨er10, er11⟩ := HRr1_2_3_4_5.out.1.cells
  obtain ⟨er20, er21⟩ := HRr2_3_4_5.out.1.cells
  obtain ⟨er30, er31⟩ := HRr3_4_5.out.1.cells
  obtain ⟨er40, er41⟩ := HRr4_5.out.1.cells
  obtain ⟨Me, hMe⟩ : ∃ M, mw5.m = M := ⟨_, rfl⟩
  have hend := mw_end
  rw [hMe] at hend
  have hS := HSm_5.out
  rw [hMe] at hS
  clear HRr0_1_2_3_4_5 HRr1_2_3_4_5 HRr2_3_4_5 HRr3_4_5 HRr4_5
  have h1 : ∀ y : World, Calls Try.prog 44 #[macV Me P5] y fun e w' => e = .returned (.int .u8 6) ∧ Below y.heap.size y w' := fun y => (mmem_any Me P5 y).mono (by rintro e w' ⟨rfl, hb⟩; exact ⟨by rw [hend.1]; rfl, hb⟩)
  have h2 : ∀ y : World, Calls Try.prog 43 #[macV Me P5] y fun e w' => e = .returned (.int .u8 7) ∧ Below y.heap.size y w' := fun y => (mall_any Me P5 y).mono (by rintro e w' ⟨rfl, hb⟩; exact ⟨by rw [hend.2]; rfl, hb⟩)
  unfold macV at h1 h2
  rw [mac_eta] at h1 h2
  obtain ⟨⟨m0, m1, m14⟩, ⟨m2, m3, m4⟩, ⟨m5, m6, m7⟩, ⟨m8, m9, m10⟩, ⟨m11, m12, m13⟩⟩ := hS.cells
  have hSz := hS
  clear hS hend hMe HSm_5 HTm_5 HEm_5
  have H1 := Lib.hid h1; clear h1
  have H2 := Lib.hid h2; clear h2
  have HSz := Lib.hid hSz; clear hSz
  go_wp2_with (first
    | ((with_reducible refine (H1.out _).mono ?_); rintro e wx ⟨rfl, hbx⟩; obtain ⟨⟨n0, n1, n14⟩, ⟨n2, n3, n4⟩, ⟨n5, n6, n7⟩, ⟨n8, n9, n10⟩, ⟨n11, n12, n13⟩⟩ := (HSz.out.below hbx).cells; have Hbx := Lib.hid hbx; clear hbx)
    | ((with_reducible refine (H2.out _).mono ?_); rintro e wy ⟨rfl, hby⟩; have Hby := Lib.hid hby; clear hby))
  go_ret
  have hb1 := HB5.out.trans (Hbx.out.mono HB5.out.size)
  exact ⟨rfl, hb1.trans (Hby.out.mono hb1.size)⟩
end Go.Proofs.Ytkngadbeflepoaa
