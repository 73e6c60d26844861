/- Machines: law13's wakes answers yes. No condition. -/
import Derived.Test.YtkngadbeflepoaaMMachineBack43
import Derived.Test.YtkngadbeflepoaaMMachineBack6
namespace Go.Proofs.Ytkngadbeflepoaa
open Go.RowKit

set_option maxRecDepth 100000 in
set_option maxHeartbeats 16000000 in
theorem mwakes_any (w : World) : Calls Try.prog 30 #[] w fun e w' => e = .returned (.bool true) ∧ Below w.heap.size w w' := by
  have hnew : ∀ y : World, Calls Try.prog 31 #[.int .u8 7, .int .u8 3] y fun e w' => e = .returned (.tuple #[.agg (macCells mw0 none).toArray, .int .i64 0]) ∧ Below y.heap.size y w' := fun y => new_any 7 3 (by omega) (by omega) y
  obtain ⟨Mi, hMi⟩ : ∃ M, mw0 = M := ⟨_, rfl⟩
  rw [hMi, mac_eta] at hnew
  have Hnew := Lib.hid hnew; clear hnew
  have HMi := Lib.hid hMi; clear hMi
  go_enter Try.func30, Try.ntmps30
  go_upto_region 2 with ((with_reducible refine (Hnew.out _).mono ?_); rintro e wn ⟨rfl, hbn⟩; have HBn := Lib.hid hbn; clear hbn)
  change Code.wp _ _ _ _ (wn.alloc (.cells (macCells Mi none).toArray 69))
  have HSm := Lib.hid (show MacAt (wn.alloc (.cells (macCells Mi none).toArray 69)) wn.heap.size Mi none from heap_alloc_new _ _)
  have HB0 := Lib.hid (HBn.out.alloc HBn.out.size (.cells (macCells Mi none).toArray 69))
  have HLow := Lib.hid HBn.out.size
  clear Hnew HBn
  have hmi := HMi.out
  clear HMi
  subst hmi
  generalize wn.alloc (.cells (macCells mw0 none).toArray 69) = w0 at *
  generalize wn.heap.size = gm at *
  have HTm := Lib.hid (show TreeAt w0 .nil from trivial)
  have HEm := Lib.hid (show Tr.nil.ptr = none ∧ Tr.nil.sh = mw0.sh from ⟨rfl, rfl⟩)
  go_cut [3, 4] (fun sr sf wx => ∃ (gr : Nat) (X : Tr) (P : Option Addr), sr = .pointer (some ⟨gr, 0, none⟩) ∧ sf = .bool true ∧ MacAt wx gm mw1.m P ∧ TreeAt wx X ∧ (X.ptr = P ∧ X.sh = mw1.m.sh) ∧ (RepAt wx gr 0 ByteArray.empty ∧ gm < gr) ∧ Below w.heap.size w wx)
  case first =>
    refine (wpIn_wide (n := 1)).1 ?_
    refine RegL.wpIn_region_lays (F := Fence.wide) (KeptW w0) [⟨7, 3, .cells (repCells 0 ByteArray.empty).toArray 51 (0, 0)⟩] [(0, 0), (1, 1), (2, 1), (3, 2), (4, 2), (5, 2), (6, 2), (8, 3), (9, 3), (10, 3)] (by kernel_rfl) (by kernel_rfl) (by kernel_rfl) (fun p hp => by rw [List.mem_singleton] at hp; subst hp; exact lays_any layRep rfl)
      (fun _ _ d _ _ h => by cases d <;> exact h) (fun _ _ d _ _ h => by cases d <;> exact h) ⟨rfl, rfl, rfl, Nat.le_refl _, fun _ _ => rfl⟩ (keptW_mono w0) ?_
    dsimp only [RegK.pick, List.getElem?_cons_zero, List.getElem?_cons_succ]
    obtain ⟨S1, hS1⟩ : ∃ V, macV mw0 none = V := ⟨_, rfl⟩
    have HV1 := Lib.hid hS1; clear hS1
    refine RegL.reads ?_
    intro K hK
    go_simp
    refine ⟨S1, fun y hy => ?_, hK _ ?_⟩
    · rw [← HV1.out]
      unfold macV
      rw [mac_eta mw0 none]
      obtain ⟨⟨m0, m1, m14⟩, ⟨m2, m3, m4⟩, ⟨m5, m6, m7⟩, ⟨m8, m9, m10⟩, ⟨m11, m12, m13⟩⟩ := (HSm.out.below (KeptW.bel hy)).cells
      go_simp
    clear hK K
    refine RegL.adds (fun _ => trivial) ?_
    go_simp
    intro x hx K hK
    refine ⟨trivial, ?_⟩
    refine (callsIn_wide.2 (show Calls Try.prog 58 #[.int .u32 1, .int .u8 5, .string { data := #[] }, .int .u8 6] x (fun e w' => e = .returned (.agg (cmdCells (of13 1#32 5 ByteArray.empty 6#8)).toArray) ∧ Below x.heap.size x w') from of13_any 1#32 5 ByteArray.empty 6#8 x)).mono ?_
    rintro e xb1 ⟨rfl, hb⟩
    have hxb : KeptW w0 xb1 := KeptW.mono hx hb
    refine hK (KeptW xb1) _ _ hb (fun y h => KeptW.mono hxb (KeptW.bel h)) (keptW_mono xb1) (Below.refl _ _) ?_
    clear hK K hb hx
    refine RegL.adds (fun _ => trivial) ?_
    go_simp
    intro x hx K hK
    refine ⟨trivial, ?_⟩
    have hxk : KeptW w0 x := KeptW.mono hxb (KeptW.bel hx)
    have hd := mdo_any (of13 1#32 5 ByteArray.empty 6#8) mw0 Tr.nil x mw_all.1 (HTm.out.below (KeptW.bel hxk)) HEm.out.2 (by rw [sh_cnt, HEm.out.2]; have := mw_cnt.1; omega)
    rw [HEm.out.1, show macDo mw0 (of13 1#32 5 ByteArray.empty 6#8) = mw1 from rfl, mw1_is.1, mw1_is.2.1, mw1_is.2.2, HV1.out] at hd
    unfold repV repCells at hd
    refine (callsIn_wide.2 hd).mono ?_
    clear hd
    rintro e xc1 ⟨X1, rfl, hX⟩
    have hxc : KeptW w0 xc1 := KeptW.mono hxk hX.bel
    refine hK (KeptW xc1) _ _ hX.bel (fun y h => KeptW.mono (KeptW.mono hx hX.bel) (KeptW.bel h)) (keptW_mono xc1) (Below.refl _ _) ?_
    have HX1 := Lib.hid (And.intro hX.at_ hX.shp)
    clear hK K hX hx hxk hxb HV1
    obtain ⟨P1, hP1⟩ : ∃ P, X1.ptr = P := ⟨_, rfl⟩
    rw [hP1]
    have HP1 := Lib.hid hP1; clear hP1
    obtain ⟨V1, hV1⟩ : ∃ V, macV mw1.m P1 = V := ⟨_, rfl⟩
    rw [hV1]
    have HV1 := Lib.hid hV1; clear hV1
    iterate 4 (refine RegL.pures ?_; intro K hK; go_simp; (first | (refine ⟨_, fun _ => rfl, hK _ ?_⟩) | (refine hK _ ?_)); clear hK K)
    refine RegL.last ?_
    intro g y hF hy
    have hyk : KeptW w0 y := KeptW.mono hxc (KeptW.bel hy)
    obtain ⟨hg1, hg2⟩ := hF.1 ⟨7, 3, .cells (repCells 0 ByteArray.empty).toArray 51 (0, 0)⟩ (by simp) rfl
    have hr : RepAt y (g 7) 0 ByteArray.empty := hg1
    have hrl : w0.heap.size ≤ g 7 := hg2
    have hs := HSm.out.below (KeptW.bel hyk)
    have hne : g 7 ≠ gm := by have := HSm.out.lt; omega
    simp only [RegL.putS, RegL.ptr, if_true]
    clear hF hg1 hg2
    generalize g 7 = gr1 at *
    have hr2 : RepAt (rowSt y gm 0 (macCells mw1.m P1)) gr1 0 ByteArray.empty := (rowSt_other hne _ _ _).trans hr
    obtain ⟨f2, f3⟩ := hr2.cells
    have f4 := hr2.thawed 0
    have f5 := hr2.thawed 1
    have HZ1 := Lib.hid (ma_end hs hr hne mw1.m P1 0 ByteArray.empty)
    obtain ⟨q0, q1⟩ := mac_store hs HV1.out
    simp only [Value.cells] at q0 q1
    clear hs hr hr2
    generalize hwr : rowSt y gm 0 (macCells mw1.m P1) = wr at *
    refine RegK.can_frees (fun _ => trivial) ?_
    intro K K0 hK hK0
    go_simp
    refine hK (fun _ => True) _ _ trivial ?_
    clear hK K hK0 K0 q0 q1
    refine RegK.can_frees (fun _ => trivial) ?_
    intro K K0 hK hK0
    go_simp
    refine hK (fun _ => True) _ _ trivial ?_
    clear hK K hK0 K0
    refine RegK.can_frees (fun _ => trivial) ?_
    intro K K0 hK hK0
    go_simp
    refine hK (fun _ => True) _ _ trivial ?_
    clear hK K hK0 K0
    refine RegK.can_nil ?_
    clear f2 f3 f4 f5 HV1
    change Exit.then _ _ _ _ (repSt wr gr1 0 ByteArray.empty)
    rw [← hwr]
    clear hwr
    change Exit.then _ _ _ _ (maW y gm gr1 mw1.m P1 0 ByteArray.empty)
    generalize maW y gm gr1 mw1.m P1 0 ByteArray.empty = w1 at *
    have HSm_1 := Lib.hid HZ1.out.st
    have HTm_1 := Lib.hid (HZ1.out.tree _ (HX1.out.1.below (KeptW.bel hy)))
    have HEm_1 := Lib.hid (And.intro HP1.out HX1.out.2)
    have HRr0_1 := Lib.hid (And.intro HZ1.out.rep (show gm < gr1 by have := HSm.out.lt; omega))
    have HB1 := Lib.hid (HZ1.out.bel _ _ (HB0.out.trans (Below.mono (KeptW.bel hyk) HB0.out.size)) (by have := HB0.out.size; have := HLow.out; omega) (by have := HB0.out.size; omega))
    clear HB0 HZ1 HX1 HP1 HSm HTm HEm hyk hy hne hrl hxc
    go_wp2_with fail
    go_meet
    exact ⟨gr1, X1, P1, rfl, rfl, HSm_1.out, HTm_1.out, HEm_1.out, HRr0_1.out, HB1.out⟩
  case rest =>
  obtain ⟨gr1, X1, P1, rfl, rfl, hs, ht, he, hr, hb⟩ := hcut
  have HSm_1 := Lib.hid hs; have HTm_1 := Lib.hid ht; have HEm_1 := Lib.hid he; have HRr0_1 := Lib.hid hr; have HB1 := Lib.hid hb
  clear hs ht he hr hb   HSm HTm HEm HB0
  generalize wc = w1 at *
  go_upto_region 3 with fail
  go_cut [5, 6] (fun sr sf wx => ∃ (gr : Nat) (X : Tr) (P : Option Addr), sr = .pointer (some ⟨gr, 0, none⟩) ∧ sf = .bool true ∧ MacAt wx gm mw2.m P ∧ TreeAt wx X ∧ (X.ptr = P ∧ X.sh = mw2.m.sh) ∧ (RepAt wx gr 2 ByteArray.empty ∧ gm < gr) ∧ Below w.heap.size w wx ∧ RepAt wx gr1 0 ByteArray.empty)
  case first =>
    refine (wpIn_wide (n := 1)).1 ?_
    refine RegL.wpIn_region_lays (F := Fence.wide) (KeptW w1) [⟨7, 5, .cells (repCells 0 ByteArray.empty).toArray 51 (0, 0)⟩] [(0, 0), (1, 1), (2, 1), (3, 2), (4, 2), (5, 2), (6, 2), (8, 3), (9, 3), (10, 3)] (by kernel_rfl) (by kernel_rfl) (by kernel_rfl) (fun p hp => by rw [List.mem_singleton] at hp; subst hp; exact lays_any layRep rfl)
      (fun _ _ d _ _ h => by cases d <;> exact h) (fun _ _ d _ _ h => by cases d <;> exact h) ⟨rfl, rfl, rfl, Nat.le_refl _, fun _ _ => rfl⟩ (keptW_mono w1) ?_
    dsimp only [RegK.pick, List.getElem?_cons_zero, List.getElem?_cons_succ]
    obtain ⟨S2, hS2⟩ : ∃ V, macV mw1.m P1 = V := ⟨_, rfl⟩
    have HV2 := Lib.hid hS2; clear hS2
    refine RegL.reads ?_
    intro K hK
    go_simp
    refine ⟨S2, fun y hy => ?_, hK _ ?_⟩
    · rw [← HV2.out]
      unfold macV
      rw [mac_eta mw1.m P1]
      obtain ⟨⟨m0, m1, m14⟩, ⟨m2, m3, m4⟩, ⟨m5, m6, m7⟩, ⟨m8, m9, m10⟩, ⟨m11, m12, m13⟩⟩ := (HSm_1.out.below (KeptW.bel hy)).cells
      go_simp
    clear hK K
    refine RegL.adds (fun _ => trivial) ?_
    go_simp
    intro x hx K hK
    refine ⟨trivial, ?_⟩
    refine (callsIn_wide.2 (show Calls Try.prog 58 #[.int .u32 2, .int .u8 5, .string { data := #[] }, .int .u8 8] x (fun e w' => e = .returned (.agg (cmdCells (of13 2#32 5 ByteArray.empty 8#8)).toArray) ∧ Below x.heap.size x w') from of13_any 2#32 5 ByteArray.empty 8#8 x)).mono ?_
    rintro e xb2 ⟨rfl, hb⟩
    have hxb : KeptW w1 xb2 := KeptW.mono hx hb
    refine hK (KeptW xb2) _ _ hb (fun y h => KeptW.mono hxb (KeptW.bel h)) (keptW_mono xb2) (Below.refl _ _) ?_
    clear hK K hb hx
    refine RegL.adds (fun _ => trivial) ?_
    go_simp
    intro x hx K hK
    refine ⟨trivial, ?_⟩
    have hxk : KeptW w1 x := KeptW.mono hxb (KeptW.bel hx)
    have hd := mdo_any (of13 2#32 5 ByteArray.empty 8#8) mw1.m X1 x mw_all.2.1 (HTm_1.out.below (KeptW.bel hxk)) HEm_1.out.2 (by rw [sh_cnt, HEm_1.out.2]; have := mw_cnt.2.1; omega)
    rw [HEm_1.out.1, show macDo mw1.m (of13 2#32 5 ByteArray.empty 8#8) = mw2 from rfl, mw2_is.1, mw2_is.2.1, mw2_is.2.2, HV2.out] at hd
    unfold repV repCells at hd
    refine (callsIn_wide.2 hd).mono ?_
    clear hd
    rintro e xc2 ⟨X2, rfl, hX⟩
    have hxc : KeptW w1 xc2 := KeptW.mono hxk hX.bel
    refine hK (KeptW xc2) _ _ hX.bel (fun y h => KeptW.mono (KeptW.mono hx hX.bel) (KeptW.bel h)) (keptW_mono xc2) (Below.refl _ _) ?_
    have HX2 := Lib.hid (And.intro hX.at_ hX.shp)
    clear hK K hX hx hxk hxb HV2
    obtain ⟨P2, hP2⟩ : ∃ P, X2.ptr = P := ⟨_, rfl⟩
    rw [hP2]
    have HP2 := Lib.hid hP2; clear hP2
    obtain ⟨V2, hV2⟩ : ∃ V, macV mw2.m P2 = V := ⟨_, rfl⟩
    rw [hV2]
    have HV2 := Lib.hid hV2; clear hV2
    iterate 4 (refine RegL.pures ?_; intro K hK; go_simp; (first | (refine ⟨_, fun _ => rfl, hK _ ?_⟩) | (refine hK _ ?_)); clear hK K)
    refine RegL.last ?_
    intro g y hF hy
    have hyk : KeptW w1 y := KeptW.mono hxc (KeptW.bel hy)
    obtain ⟨hg1, hg2⟩ := hF.1 ⟨7, 5, .cells (repCells 0 ByteArray.empty).toArray 51 (0, 0)⟩ (by simp) rfl
    have hr : RepAt y (g 7) 0 ByteArray.empty := hg1
    have hrl : w1.heap.size ≤ g 7 := hg2
    have hs := HSm_1.out.below (KeptW.bel hyk)
    have hne : g 7 ≠ gm := by have := HSm_1.out.lt; omega
    simp only [RegL.putS, RegL.ptr, if_true]
    clear hF hg1 hg2
    generalize g 7 = gr2 at *
    have hr2 : RepAt (rowSt y gm 0 (macCells mw2.m P2)) gr2 0 ByteArray.empty := (rowSt_other hne _ _ _).trans hr
    obtain ⟨f2, f3⟩ := hr2.cells
    have f4 := hr2.thawed 0
    have f5 := hr2.thawed 1
    have HZ2 := Lib.hid (ma_end hs hr hne mw2.m P2 2 ByteArray.empty)
    obtain ⟨q0, q1⟩ := mac_store hs HV2.out
    simp only [Value.cells] at q0 q1
    clear hs hr hr2
    generalize hwr : rowSt y gm 0 (macCells mw2.m P2) = wr at *
    refine RegK.can_frees (fun _ => trivial) ?_
    intro K K0 hK hK0
    go_simp
    refine hK (fun _ => True) _ _ trivial ?_
    clear hK K hK0 K0 q0 q1
    refine RegK.can_frees (fun _ => trivial) ?_
    intro K K0 hK hK0
    go_simp
    refine hK (fun _ => True) _ _ trivial ?_
    clear hK K hK0 K0
    refine RegK.can_frees (fun _ => trivial) ?_
    intro K K0 hK hK0
    go_simp
    refine hK (fun _ => True) _ _ trivial ?_
    clear hK K hK0 K0
    refine RegK.can_nil ?_
    clear f2 f3 f4 f5 HV2
    change Exit.then _ _ _ _ (repSt wr gr2 2 ByteArray.empty)
    rw [← hwr]
    clear hwr
    change Exit.then _ _ _ _ (maW y gm gr2 mw2.m P2 2 ByteArray.empty)
    generalize maW y gm gr2 mw2.m P2 2 ByteArray.empty = w2 at *
    have HRr0_1_2 := Lib.hid (And.intro (show RepAt w2 gr1 0 ByteArray.empty from (HZ2.out.oth _ (by have := HRr0_1.out.2; omega) (by have := HRr0_1.out.1.lt; omega)).trans (HRr0_1.out.1.below (KeptW.bel hyk))) HRr0_1.out.2)
    have HSm_2 := Lib.hid HZ2.out.st
    have HTm_2 := Lib.hid (HZ2.out.tree _ (HX2.out.1.below (KeptW.bel hy)))
    have HEm_2 := Lib.hid (And.intro HP2.out HX2.out.2)
    have HRr1_2 := Lib.hid (And.intro HZ2.out.rep (show gm < gr2 by have := HSm_1.out.lt; omega))
    have HB2 := Lib.hid (HZ2.out.bel _ _ (HB1.out.trans (Below.mono (KeptW.bel hyk) HB1.out.size)) (by have := HB1.out.size; have := HLow.out; omega) (by have := HB1.out.size; omega))
    clear HRr0_1 HB1 HZ2 HX2 HP2 HSm_1 HTm_1 HEm_1 hyk hy hne hrl hxc
    go_wp2_with fail
    go_meet
    exact ⟨gr2, X2, P2, rfl, rfl, HSm_2.out, HTm_2.out, HEm_2.out, HRr1_2.out, HB2.out, HRr0_1_2.out.1⟩
  case rest =>
  obtain ⟨gr2, X2, P2, rfl, rfl, hs, ht, he, hr, hb, hrr0_2⟩ := hcut
  have HSm_2 := Lib.hid hs; have HTm_2 := Lib.hid ht; have HEm_2 := Lib.hid he; have HRr1_2 := Lib.hid hr; have HB2 := Lib.hid hb; have HRr0_1_2 := Lib.hid (And.intro hrr0_2 HRr0_1.out.2)
  clear hs ht he hr hb hrr0_2 HRr0_1 HSm_1 HTm_1 HEm_1 HB1
  generalize wc = w2 at *
  go_upto_region 4 with fail
  go_cut [7, 8] (fun sr sf wx => ∃ (gr : Nat) (X : Tr) (P : Option Addr), sr = .pointer (some ⟨gr, 0, none⟩) ∧ sf = .bool false ∧ MacAt wx gm mw3.m P ∧ TreeAt wx X ∧ (X.ptr = P ∧ X.sh = mw3.m.sh) ∧ (RepAt wx gr 2 ByteArray.empty ∧ gm < gr) ∧ Below w.heap.size w wx ∧ RepAt wx gr1 0 ByteArray.empty ∧ RepAt wx gr2 2 ByteArray.empty)
  case first =>
    refine (wpIn_wide (n := 1)).1 ?_
    refine RegL.wpIn_region_lays (F := Fence.wide) (KeptW w2) [⟨7, 7, .cells (repCells 0 ByteArray.empty).toArray 51 (0, 0)⟩] [(0, 0), (1, 1), (2, 1), (3, 2), (4, 2), (5, 2), (6, 2), (8, 3), (9, 3), (10, 3)] (by kernel_rfl) (by kernel_rfl) (by kernel_rfl) (fun p hp => by rw [List.mem_singleton] at hp; subst hp; exact lays_any layRep rfl)
      (fun _ _ d _ _ h => by cases d <;> exact h) (fun _ _ d _ _ h => by cases d <;> exact h) ⟨rfl, rfl, rfl, Nat.le_refl _, fun _ _ => rfl⟩ (keptW_mono w2) ?_
    dsimp only [RegK.pick, List.getElem?_cons_zero, List.getElem?_cons_succ]
    obtain ⟨S3, hS3⟩ : ∃ V, macV mw2.m P2 = V := ⟨_, rfl⟩
    have HV3 := Lib.hid hS3; clear hS3
    refine RegL.reads ?_
    intro K hK
    go_simp
    refine ⟨S3, fun y hy => ?_, hK _ ?_⟩
    · rw [← HV3.out]
      unfold macV
      rw [mac_eta mw2.m P2]
      obtain ⟨⟨m0, m1, m14⟩, ⟨m2, m3, m4⟩, ⟨m5, m6, m7⟩, ⟨m8, m9, m10⟩, ⟨m11, m12, m13⟩⟩ := (HSm_2.out.below (KeptW.bel hy)).cells
      go_simp
    clear hK K
    refine RegL.adds (fun _ => trivial) ?_
    go_simp
    intro x hx K hK
    refine ⟨trivial, ?_⟩
    refine (callsIn_wide.2 (show Calls Try.prog 58 #[.int .u32 2, .int .u8 1, .string { data := #[97] }, .int .u8 0] x (fun e w' => e = .returned (.agg (cmdCells (of13 2#32 1 mwA 0#8)).toArray) ∧ Below x.heap.size x w') from of13_any 2#32 1 mwA 0#8 x)).mono ?_
    rintro e xb3 ⟨rfl, hb⟩
    have hxb : KeptW w2 xb3 := KeptW.mono hx hb
    refine hK (KeptW xb3) _ _ hb (fun y h => KeptW.mono hxb (KeptW.bel h)) (keptW_mono xb3) (Below.refl _ _) ?_
    clear hK K hb hx
    refine RegL.adds (fun _ => trivial) ?_
    go_simp
    intro x hx K hK
    refine ⟨trivial, ?_⟩
    have hxk : KeptW w2 x := KeptW.mono hxb (KeptW.bel hx)
    have hd := mdo_any (of13 2#32 1 mwA 0#8) mw2.m X2 x mw_all.2.2.1 (HTm_2.out.below (KeptW.bel hxk)) HEm_2.out.2 (by rw [sh_cnt, HEm_2.out.2]; have := mw_cnt.2.2.1; omega)
    rw [HEm_2.out.1, show macDo mw2.m (of13 2#32 1 mwA 0#8) = mw3 from rfl, mw3_is.1, mw3_is.2.1, mw3_is.2.2, HV3.out] at hd
    unfold repV repCells at hd
    refine (callsIn_wide.2 hd).mono ?_
    clear hd
    rintro e xc3 ⟨X3, rfl, hX⟩
    have hxc : KeptW w2 xc3 := KeptW.mono hxk hX.bel
    refine hK (KeptW xc3) _ _ hX.bel (fun y h => KeptW.mono (KeptW.mono hx hX.bel) (KeptW.bel h)) (keptW_mono xc3) (Below.refl _ _) ?_
    have HX3 := Lib.hid (And.intro hX.at_ hX.shp)
    clear hK K hX hx hxk hxb HV3
    obtain ⟨P3, hP3⟩ : ∃ P, X3.ptr = P := ⟨_, rfl⟩
    rw [hP3]
    have HP3 := Lib.hid hP3; clear hP3
    obtain ⟨V3, hV3⟩ : ∃ V, macV mw3.m P3 = V := ⟨_, rfl⟩
    rw [hV3]
    have HV3 := Lib.hid hV3; clear hV3
    iterate 4 (refine RegL.pures ?_; intro K hK; go_simp; (first | (refine ⟨_, fun _ => rfl, hK _ ?_⟩) | (refine hK _ ?_)); clear hK K)
    refine RegL.last ?_
    intro g y hF hy
    have hyk : KeptW w2 y := KeptW.mono hxc (KeptW.bel hy)
    obtain ⟨hg1, hg2⟩ := hF.1 ⟨7, 7, .cells (repCells 0 ByteArray.empty).toArray 51 (0, 0)⟩ (by simp) rfl
    have hr : RepAt y (g 7) 0 ByteArray.empty := hg1
    have hrl : w2.heap.size ≤ g 7 := hg2
    have hs := HSm_2.out.below (KeptW.bel hyk)
    have hne : g 7 ≠ gm := by have := HSm_2.out.lt; omega
    simp only [RegL.putS, RegL.ptr, if_true]
    clear hF hg1 hg2
    generalize g 7 = gr3 at *
    have hr2 : RepAt (rowSt y gm 0 (macCells mw3.m P3)) gr3 0 ByteArray.empty := (rowSt_other hne _ _ _).trans hr
    obtain ⟨f2, f3⟩ := hr2.cells
    have f4 := hr2.thawed 0
    have f5 := hr2.thawed 1
    have HZ3 := Lib.hid (ma_end hs hr hne mw3.m P3 2 ByteArray.empty)
    obtain ⟨q0, q1⟩ := mac_store hs HV3.out
    simp only [Value.cells] at q0 q1
    clear hs hr hr2
    generalize hwr : rowSt y gm 0 (macCells mw3.m P3) = wr at *
    refine RegK.can_frees (fun _ => trivial) ?_
    intro K K0 hK hK0
    go_simp
    refine hK (fun _ => True) _ _ trivial ?_
    clear hK K hK0 K0 q0 q1
    refine RegK.can_frees (fun _ => trivial) ?_
    intro K K0 hK hK0
    go_simp
    refine hK (fun _ => True) _ _ trivial ?_
    clear hK K hK0 K0
    refine RegK.can_frees (fun _ => trivial) ?_
    intro K K0 hK hK0
    go_simp
    refine hK (fun _ => True) _ _ trivial ?_
    clear hK K hK0 K0
    refine RegK.can_nil ?_
    clear f2 f3 f4 f5 HV3
    change Exit.then _ _ _ _ (repSt wr gr3 2 ByteArray.empty)
    rw [← hwr]
    clear hwr
    change Exit.then _ _ _ _ (maW y gm gr3 mw3.m P3 2 ByteArray.empty)
    generalize maW y gm gr3 mw3.m P3 2 ByteArray.empty = w3 at *
    have HRr0_1_2_3 := Lib.hid (And.intro (show RepAt w3 gr1 0 ByteArray.empty from (HZ3.out.oth _ (by have := HRr0_1_2.out.2; omega) (by have := HRr0_1_2.out.1.lt; omega)).trans (HRr0_1_2.out.1.below (KeptW.bel hyk))) HRr0_1_2.out.2)
    have HRr1_2_3 := Lib.hid (And.intro (show RepAt w3 gr2 2 ByteArray.empty from (HZ3.out.oth _ (by have := HRr1_2.out.2; omega) (by have := HRr1_2.out.1.lt; omega)).trans (HRr1_2.out.1.below (KeptW.bel hyk))) HRr1_2.out.2)
    have HSm_3 := Lib.hid HZ3.out.st
    have HTm_3 := Lib.hid (HZ3.out.tree _ (HX3.out.1.below (KeptW.bel hy)))
    have HEm_3 := Lib.hid (And.intro HP3.out HX3.out.2)
    have HRr2_3 := Lib.hid (And.intro HZ3.out.rep (show gm < gr3 by have := HSm_2.out.lt; omega))
    have HB3 := Lib.hid (HZ3.out.bel _ _ (HB2.out.trans (Below.mono (KeptW.bel hyk) HB2.out.size)) (by have := HB2.out.size; have := HLow.out; omega) (by have := HB2.out.size; omega))
    clear HRr0_1_2 HRr1_2 HB2 HZ3 HX3 HP3 HSm_2 HTm_2 HEm_2 hyk hy hne hrl hxc
    go_wp2_with fail
    go_meet
    exact ⟨gr3, X3, P3, rfl, rfl, HSm_3.out, HTm_3.out, HEm_3.out, HRr2_3.out, HB3.out, HRr0_1_2_3.out.1, HRr1_2_3.out.1⟩
  case rest =>
  obtain ⟨gr3, X3, P3, rfl, rfl, hs, ht, he, hr, hb, hrr0_3, hrr1_3⟩ := hcut
  have HSm_3 := Lib.hid hs; have HTm_3 := Lib.hid ht; have HEm_3 := Lib.hid he; have HRr2_3 := Lib.hid hr; have HB3 := Lib.hid hb; have HRr0_1_2_3 := Lib.hid (And.intro hrr0_3 HRr0_1_2.out.2); have HRr1_2_3 := Lib.hid (And.intro hrr1_3 HRr1_2.out.2)
  clear hs ht he hr hb hrr0_3 hrr1_3 HRr0_1_2 HRr1_2 HSm_2 HTm_2 HEm_2 HB2
  generalize wc = w3 at *
  go_step
  exact mwakes_tail w w3 gm gr1 gr2 gr3 X3 P3 HLow HSm_3 HTm_3 HEm_3 HB3 HRr0_1_2_3 HRr1_2_3 HRr2_3 u13 u14 u15 u16 u17 u18 u19 u20 u21 u22 u23 u24 u25 u26 u27 u28 u29 u30 u31 u32 u33 u34 u35 u36 u37 u38 u39 u40 u41 u42 u43 u44 u45 u46 u47 u48 u49 u50 u51 u52 u53 u54 u55 u56 u57 u58 u59 u60 u61 u62 u63 u64 u65 u66 u67 u68 u69 u70 u71 u72 u73 u74 u75 u76 u77 u78 u79 u80 u81 u82 u83 u84 u85 u86 u87 u88 u89 u90 u91 u92 u93 u94 u95 u96 u97 u98
end Go.Proofs.Ytkngadbeflepoaa
