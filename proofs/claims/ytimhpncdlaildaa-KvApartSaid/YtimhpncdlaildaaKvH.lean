/- The state of keys: wakes answers yes. No condition. -/
import Derived.Test.YtimhpncdlaildaaKvG
namespace Go.Proofs.Ytimhpncdlaildaa
open Go.RowKit

set_option maxRecDepth 100000 in
set_option maxHeartbeats 8000000 in
theorem kwakes_any (w : World) : Calls Try.prog 55 #[] w fun e w' => e = .returned (.bool true) ∧ Below w.heap.size w w' := by
  have HSa := Lib.hid (VarAt.new w (.pointer none) 96)
  have HB0 := Lib.hid ((Below.refl w.heap.size w).alloc (Nat.le_refl _) (.cells #[.pointer none] 96))
  have HEa := Lib.hid (show Tr.nil.ptr = none ∧ Tr.nil.sh = Sh.nil ∧ Tr.nil.cnt ≤ 0 from ⟨rfl, rfl, Nat.le_refl _⟩)
  go_enter Try.func55, Try.ntmps55
  go_upto_region 2 with fail
  change Code.wp _ _ _ _ (w.alloc (.cells #[.pointer none] 96))
  generalize w.alloc (.cells #[.pointer none] 96) = w0 at *
  have HTa := Lib.hid (show TreeAt w0 .nil from trivial)
  refine (wpIn_wide (n := 1)).1 ?_
  refine RegL.wpIn_region_lays (F := Fence.wide) (KeptW w0) [⟨6, 2, .cells (repCells 0 ByteArray.empty).toArray 98 (0, 0)⟩] [(0, 0), (1, 1), (2, 1), (3, 2), (4, 2), (5, 2), (7, 3), (8, 3)] (by kernel_rfl) (by kernel_rfl) (by kernel_rfl) (fun p hp => by rw [List.mem_singleton] at hp; subst hp; exact lays_any layRep rfl)
    (fun _ _ d _ _ h => by cases d <;> exact h) (fun _ _ d _ _ h => by cases d <;> exact h) ⟨rfl, rfl, rfl, Nat.le_refl _, fun _ _ => rfl⟩ (keptW_mono w0) ?_
  dsimp only [RegK.pick, List.getElem?_cons_zero, List.getElem?_cons_succ]
  refine RegL.reads ?_
  intro K hK
  go_simp
  refine ⟨.agg #[.pointer none], fun y hy => ?_, hK _ ?_⟩
  · have f0 := (HSa.out.below (KeptW.bel hy)).cell
    go_simp
  clear hK K
  refine RegL.adds (fun _ => trivial) ?_
  go_simp
  intro x hx K hK
  refine ⟨trivial, ?_⟩
  refine (callsIn_wide.2 (show Calls Try.prog 53 #[.int .u8 2, .string { data := #[97] }, .string { data := #[] }, .string { data := #[49] }] x (fun e w' => e = .returned (.agg #[.int .u8 0, .int .u32 1, .int .u8 2, .string { data := #[97] }, .string { data := #[] }, .string { data := #[49] }, .int .u8 0]) ∧ Below x.heap.size x w') from of_any 2 ⟨#[97]⟩ ByteArray.empty ⟨#[49]⟩ x)).mono ?_
  rintro e xb1 ⟨rfl, hb⟩
  have hxb : KeptW w0 xb1 := KeptW.mono hx hb
  refine hK (KeptW xb1) _ _ hb (fun y h => KeptW.mono hxb (KeptW.bel h)) (keptW_mono xb1) (Below.refl _ _) ?_
  clear hK K hb hx
  refine RegL.adds (fun _ => trivial) ?_
  go_simp
  intro x hx K hK
  refine ⟨trivial, ?_⟩
  have hxk : KeptW w0 x := KeptW.mono hxb (KeptW.bel hx)
  have hd := do_any (ofC 2 ⟨#[97]⟩ ByteArray.empty ⟨#[49]⟩) Tr.nil x (HTa.out.below (KeptW.bel hxk)) (by have := HEa.out.2.2; omega)
  rw [HEa.out.1, HEa.out.2.1, show kvDo _ (ofC 2 ⟨#[97]⟩ ByteArray.empty ⟨#[49]⟩) = wk0 from rfl, (wk0_is).1, (wk0_is).2] at hd
  refine (callsIn_wide.2 (show Calls Try.prog 52 #[.agg #[.pointer none], .agg #[.int .u8 0, .int .u32 1, .int .u8 2, .string { data := #[97] }, .string { data := #[] }, .string { data := #[49] }, .int .u8 0]] x (fun e w' => ∃ X, e = .returned (.tuple #[.agg #[.pointer X.ptr], .agg #[.int .u8 0, .string { data := #[] }]]) ∧ KvPost Tr.nil wk0 _ x w' X) from hd)).mono ?_
  clear hd
  rintro e xc1 ⟨X1, rfl, hX⟩
  have hxc : KeptW w0 xc1 := KeptW.mono hxk hX.bel
  refine hK (KeptW xc1) _ _ hX.bel (fun y h => KeptW.mono (KeptW.mono hx hX.bel) (KeptW.bel h)) (keptW_mono xc1) (Below.refl _ _) ?_
  have HX1 := Lib.hid (And.intro hX.at_ (And.intro hX.shp hX.num))
  clear hK K hX hx hxk hxb
  obtain ⟨P1, hP1⟩ : ∃ P, X1.ptr = P := ⟨_, rfl⟩
  rw [hP1]
  have HP1 := Lib.hid hP1; clear hP1
  iterate 3 (refine RegL.pures ?_; intro K hK; go_simp; (first | (refine ⟨_, fun _ => rfl, hK _ ?_⟩) | (refine hK _ ?_)); clear hK K)
  refine RegL.last ?_
  intro g y hF hy
  have hyk : KeptW w0 y := KeptW.mono hxc (KeptW.bel hy)
  obtain ⟨hg1, hg2⟩ := hF.1 ⟨6, 2, .cells (repCells 0 ByteArray.empty).toArray 98 (0, 0)⟩ (by simp) rfl
  have hr : RepAt y (g 6) 0 ByteArray.empty := hg1
  have hrl : w0.heap.size ≤ g 6 := hg2
  have hs := HSa.out.below (KeptW.bel hyk)
  have hne : g 6 ≠ w.heap.size := by have := HSa.out.lt; omega
  simp only [RegL.putS, RegL.ptr, if_true]
  clear hF hg1 hg2
  generalize g 6 = gr1 at *
  have hr2 : RepAt (y.setCell ⟨w.heap.size, 0, none⟩ (.pointer P1)) gr1 0 ByteArray.empty := hr.other hne
  have f0 := hs.cell
  have f1 := hs.thawed 0
  obtain ⟨f2, f3⟩ := hr2.cells
  have f4 := hr2.thawed 0
  have f5 := hr2.thawed 1
  have HZ1 := Lib.hid (st_end hs hr hne P1 0 ByteArray.empty)
  clear hs hr hr2
  refine RegK.can_frees (fun _ => trivial) ?_
  intro K K0 hK hK0
  go_simp
  refine hK (fun _ => True) _ _ trivial ?_
  clear hK K hK0 K0
  refine RegK.can_frees (fun _ => trivial) ?_
  intro K K0 hK hK0
  go_simp
  refine hK (fun _ => True) _ _ trivial ?_
  clear hK K hK0 K0
  refine RegK.can_nil ?_
  clear f0 f1 f2 f3 f4 f5
  change Exit.then _ _ _ _ (stW y w.heap.size gr1 P1 0 ByteArray.empty)
  generalize stW y w.heap.size gr1 P1 0 ByteArray.empty = w1 at *
  have HSa_1 := Lib.hid HZ1.out.st
  have HTa_1 := Lib.hid (HZ1.out.tree _ (HX1.out.1.below (KeptW.bel hy)))
  have HEa_1 := Lib.hid (And.intro HP1.out (And.intro HX1.out.2.1 (show X1.cnt ≤ 1 from Nat.le_trans HX1.out.2.2 (by have := HEa.out.2.2; omega))))
  have HR2_1 := Lib.hid (And.intro HZ1.out.rep (show w.heap.size < gr1 by have := HSa.out.lt; have := HB0.out.size; omega))
  have HB1 := Lib.hid (HZ1.out.bel _ _ (HB0.out.trans (Below.mono (KeptW.bel hyk) HB0.out.size)) (by have := HB0.out.size; omega) (by have := HB0.out.size; omega))
  clear HB0 HZ1 HX1 HP1 HSa HTa HEa hyk hy hne hrl hxc
  skip
  go_upto_region 3 with fail
  refine (wpIn_wide (n := 1)).1 ?_
  refine RegL.wpIn_region_lays (F := Fence.wide) (KeptW w1) [⟨6, 3, .cells (repCells 0 ByteArray.empty).toArray 98 (0, 0)⟩] [(0, 0), (1, 1), (2, 1), (3, 2), (4, 2), (5, 2), (7, 3), (8, 3)] (by kernel_rfl) (by kernel_rfl) (by kernel_rfl) (fun p hp => by rw [List.mem_singleton] at hp; subst hp; exact lays_any layRep rfl)
    (fun _ _ d _ _ h => by cases d <;> exact h) (fun _ _ d _ _ h => by cases d <;> exact h) ⟨rfl, rfl, rfl, Nat.le_refl _, fun _ _ => rfl⟩ (keptW_mono w1) ?_
  dsimp only [RegK.pick, List.getElem?_cons_zero, List.getElem?_cons_succ]
  refine RegL.reads ?_
  intro K hK
  go_simp
  refine ⟨.agg #[.pointer P1], fun y hy => ?_, hK _ ?_⟩
  · have f0 := (HSa_1.out.below (KeptW.bel hy)).cell
    go_simp
  clear hK K
  refine RegL.adds (fun _ => trivial) ?_
  go_simp
  intro x hx K hK
  refine ⟨trivial, ?_⟩
  refine (callsIn_wide.2 (show Calls Try.prog 53 #[.int .u8 4, .string { data := #[97] }, .string { data := #[49] }, .string { data := #[50] }] x (fun e w' => e = .returned (.agg #[.int .u8 0, .int .u32 1, .int .u8 4, .string { data := #[97] }, .string { data := #[49] }, .string { data := #[50] }, .int .u8 0]) ∧ Below x.heap.size x w') from of_any 4 ⟨#[97]⟩ ⟨#[49]⟩ ⟨#[50]⟩ x)).mono ?_
  rintro e xb2 ⟨rfl, hb⟩
  have hxb : KeptW w1 xb2 := KeptW.mono hx hb
  refine hK (KeptW xb2) _ _ hb (fun y h => KeptW.mono hxb (KeptW.bel h)) (keptW_mono xb2) (Below.refl _ _) ?_
  clear hK K hb hx
  refine RegL.adds (fun _ => trivial) ?_
  go_simp
  intro x hx K hK
  refine ⟨trivial, ?_⟩
  have hxk : KeptW w1 x := KeptW.mono hxb (KeptW.bel hx)
  have hd := do_any (ofC 4 ⟨#[97]⟩ ⟨#[49]⟩ ⟨#[50]⟩) X1 x (HTa_1.out.below (KeptW.bel hxk)) (by have := HEa_1.out.2.2; omega)
  rw [HEa_1.out.1, HEa_1.out.2.1, show kvDo _ (ofC 4 ⟨#[97]⟩ ⟨#[49]⟩ ⟨#[50]⟩) = wk1 from rfl, (wk1_is).1, (wk1_is).2] at hd
  refine (callsIn_wide.2 (show Calls Try.prog 52 #[.agg #[.pointer P1], .agg #[.int .u8 0, .int .u32 1, .int .u8 4, .string { data := #[97] }, .string { data := #[49] }, .string { data := #[50] }, .int .u8 0]] x (fun e w' => ∃ X, e = .returned (.tuple #[.agg #[.pointer X.ptr], .agg #[.int .u8 0, .string { data := #[] }]]) ∧ KvPost X1 wk1 _ x w' X) from hd)).mono ?_
  clear hd
  rintro e xc2 ⟨X2, rfl, hX⟩
  have hxc : KeptW w1 xc2 := KeptW.mono hxk hX.bel
  refine hK (KeptW xc2) _ _ hX.bel (fun y h => KeptW.mono (KeptW.mono hx hX.bel) (KeptW.bel h)) (keptW_mono xc2) (Below.refl _ _) ?_
  have HX2 := Lib.hid (And.intro hX.at_ (And.intro hX.shp hX.num))
  clear hK K hX hx hxk hxb
  obtain ⟨P2, hP2⟩ : ∃ P, X2.ptr = P := ⟨_, rfl⟩
  rw [hP2]
  have HP2 := Lib.hid hP2; clear hP2
  iterate 3 (refine RegL.pures ?_; intro K hK; go_simp; (first | (refine ⟨_, fun _ => rfl, hK _ ?_⟩) | (refine hK _ ?_)); clear hK K)
  refine RegL.last ?_
  intro g y hF hy
  have hyk : KeptW w1 y := KeptW.mono hxc (KeptW.bel hy)
  obtain ⟨hg1, hg2⟩ := hF.1 ⟨6, 3, .cells (repCells 0 ByteArray.empty).toArray 98 (0, 0)⟩ (by simp) rfl
  have hr : RepAt y (g 6) 0 ByteArray.empty := hg1
  have hrl : w1.heap.size ≤ g 6 := hg2
  have hs := HSa_1.out.below (KeptW.bel hyk)
  have hne : g 6 ≠ w.heap.size := by have := HSa_1.out.lt; omega
  simp only [RegL.putS, RegL.ptr, if_true]
  clear hF hg1 hg2
  generalize g 6 = gr2 at *
  have hr2 : RepAt (y.setCell ⟨w.heap.size, 0, none⟩ (.pointer P2)) gr2 0 ByteArray.empty := hr.other hne
  have f0 := hs.cell
  have f1 := hs.thawed 0
  obtain ⟨f2, f3⟩ := hr2.cells
  have f4 := hr2.thawed 0
  have f5 := hr2.thawed 1
  have HZ2 := Lib.hid (st_end hs hr hne P2 0 ByteArray.empty)
  clear hs hr hr2
  refine RegK.can_frees (fun _ => trivial) ?_
  intro K K0 hK hK0
  go_simp
  refine hK (fun _ => True) _ _ trivial ?_
  clear hK K hK0 K0
  refine RegK.can_frees (fun _ => trivial) ?_
  intro K K0 hK hK0
  go_simp
  refine hK (fun _ => True) _ _ trivial ?_
  clear hK K hK0 K0
  refine RegK.can_nil ?_
  clear f0 f1 f2 f3 f4 f5
  change Exit.then _ _ _ _ (stW y w.heap.size gr2 P2 0 ByteArray.empty)
  generalize stW y w.heap.size gr2 P2 0 ByteArray.empty = w2 at *
  have HR2_1_2 := Lib.hid (And.intro (show RepAt w2 gr1 0 ByteArray.empty from (HZ2.out.oth _ (by have := HR2_1.out.2; omega) (by have := HR2_1.out.1.lt; omega)).trans (HR2_1.out.1.below (KeptW.bel hyk))) HR2_1.out.2)
  have HSa_2 := Lib.hid HZ2.out.st
  have HTa_2 := Lib.hid (HZ2.out.tree _ (HX2.out.1.below (KeptW.bel hy)))
  have HEa_2 := Lib.hid (And.intro HP2.out (And.intro HX2.out.2.1 (show X2.cnt ≤ 2 from Nat.le_trans HX2.out.2.2 (by have := HEa_1.out.2.2; omega))))
  have HR3_2 := Lib.hid (And.intro HZ2.out.rep (show w.heap.size < gr2 by have := HSa_1.out.lt; have := HB1.out.size; omega))
  have HB2 := Lib.hid (HZ2.out.bel _ _ (HB1.out.trans (Below.mono (KeptW.bel hyk) HB1.out.size)) (by have := HB1.out.size; omega) (by have := HB1.out.size; omega))
  clear HR2_1 HB1 HZ2 HX2 HP2 HSa_1 HTa_1 HEa_1 hyk hy hne hrl hxc
  skip
  go_upto_region 4 with fail
  refine (wpIn_wide (n := 1)).1 ?_
  refine RegL.wpIn_region_lays (F := Fence.wide) (KeptW w2) [⟨6, 4, .cells (repCells 0 ByteArray.empty).toArray 98 (0, 0)⟩] [(0, 0), (1, 1), (2, 1), (3, 2), (4, 2), (5, 2), (7, 3), (8, 3)] (by kernel_rfl) (by kernel_rfl) (by kernel_rfl) (fun p hp => by rw [List.mem_singleton] at hp; subst hp; exact lays_any layRep rfl)
    (fun _ _ d _ _ h => by cases d <;> exact h) (fun _ _ d _ _ h => by cases d <;> exact h) ⟨rfl, rfl, rfl, Nat.le_refl _, fun _ _ => rfl⟩ (keptW_mono w2) ?_
  dsimp only [RegK.pick, List.getElem?_cons_zero, List.getElem?_cons_succ]
  refine RegL.reads ?_
  intro K hK
  go_simp
  refine ⟨.agg #[.pointer P2], fun y hy => ?_, hK _ ?_⟩
  · have f0 := (HSa_2.out.below (KeptW.bel hy)).cell
    go_simp
  clear hK K
  refine RegL.adds (fun _ => trivial) ?_
  go_simp
  intro x hx K hK
  refine ⟨trivial, ?_⟩
  refine (callsIn_wide.2 (show Calls Try.prog 53 #[.int .u8 4, .string { data := #[97] }, .string { data := #[49] }, .string { data := #[51] }] x (fun e w' => e = .returned (.agg #[.int .u8 0, .int .u32 1, .int .u8 4, .string { data := #[97] }, .string { data := #[49] }, .string { data := #[51] }, .int .u8 0]) ∧ Below x.heap.size x w') from of_any 4 ⟨#[97]⟩ ⟨#[49]⟩ ⟨#[51]⟩ x)).mono ?_
  rintro e xb3 ⟨rfl, hb⟩
  have hxb : KeptW w2 xb3 := KeptW.mono hx hb
  refine hK (KeptW xb3) _ _ hb (fun y h => KeptW.mono hxb (KeptW.bel h)) (keptW_mono xb3) (Below.refl _ _) ?_
  clear hK K hb hx
  refine RegL.adds (fun _ => trivial) ?_
  go_simp
  intro x hx K hK
  refine ⟨trivial, ?_⟩
  have hxk : KeptW w2 x := KeptW.mono hxb (KeptW.bel hx)
  have hd := do_any (ofC 4 ⟨#[97]⟩ ⟨#[49]⟩ ⟨#[51]⟩) X2 x (HTa_2.out.below (KeptW.bel hxk)) (by have := HEa_2.out.2.2; omega)
  rw [HEa_2.out.1, HEa_2.out.2.1, show kvDo _ (ofC 4 ⟨#[97]⟩ ⟨#[49]⟩ ⟨#[51]⟩) = wk2 from rfl, (wk2_is).1, (wk2_is).2] at hd
  refine (callsIn_wide.2 (show Calls Try.prog 52 #[.agg #[.pointer P2], .agg #[.int .u8 0, .int .u32 1, .int .u8 4, .string { data := #[97] }, .string { data := #[49] }, .string { data := #[51] }, .int .u8 0]] x (fun e w' => ∃ X, e = .returned (.tuple #[.agg #[.pointer X.ptr], .agg #[.int .u8 2, .string { data := #[50] }]]) ∧ KvPost X2 wk2 _ x w' X) from hd)).mono ?_
  clear hd
  rintro e xc3 ⟨X3, rfl, hX⟩
  have hxc : KeptW w2 xc3 := KeptW.mono hxk hX.bel
  refine hK (KeptW xc3) _ _ hX.bel (fun y h => KeptW.mono (KeptW.mono hx hX.bel) (KeptW.bel h)) (keptW_mono xc3) (Below.refl _ _) ?_
  have HX3 := Lib.hid (And.intro hX.at_ (And.intro hX.shp hX.num))
  clear hK K hX hx hxk hxb
  obtain ⟨P3, hP3⟩ : ∃ P, X3.ptr = P := ⟨_, rfl⟩
  rw [hP3]
  have HP3 := Lib.hid hP3; clear hP3
  iterate 3 (refine RegL.pures ?_; intro K hK; go_simp; (first | (refine ⟨_, fun _ => rfl, hK _ ?_⟩) | (refine hK _ ?_)); clear hK K)
  refine RegL.last ?_
  intro g y hF hy
  have hyk : KeptW w2 y := KeptW.mono hxc (KeptW.bel hy)
  obtain ⟨hg1, hg2⟩ := hF.1 ⟨6, 4, .cells (repCells 0 ByteArray.empty).toArray 98 (0, 0)⟩ (by simp) rfl
  have hr : RepAt y (g 6) 0 ByteArray.empty := hg1
  have hrl : w2.heap.size ≤ g 6 := hg2
  have hs := HSa_2.out.below (KeptW.bel hyk)
  have hne : g 6 ≠ w.heap.size := by have := HSa_2.out.lt; omega
  simp only [RegL.putS, RegL.ptr, if_true]
  clear hF hg1 hg2
  generalize g 6 = gr3 at *
  have hr2 : RepAt (y.setCell ⟨w.heap.size, 0, none⟩ (.pointer P3)) gr3 0 ByteArray.empty := hr.other hne
  have f0 := hs.cell
  have f1 := hs.thawed 0
  obtain ⟨f2, f3⟩ := hr2.cells
  have f4 := hr2.thawed 0
  have f5 := hr2.thawed 1
  have HZ3 := Lib.hid (st_end hs hr hne P3 2 ⟨#[50]⟩)
  clear hs hr hr2
  refine RegK.can_frees (fun _ => trivial) ?_
  intro K K0 hK hK0
  go_simp
  refine hK (fun _ => True) _ _ trivial ?_
  clear hK K hK0 K0
  refine RegK.can_frees (fun _ => trivial) ?_
  intro K K0 hK hK0
  go_simp
  refine hK (fun _ => True) _ _ trivial ?_
  clear hK K hK0 K0
  refine RegK.can_nil ?_
  clear f0 f1 f2 f3 f4 f5
  change Exit.then _ _ _ _ (stW y w.heap.size gr3 P3 2 ⟨#[50]⟩)
  generalize stW y w.heap.size gr3 P3 2 ⟨#[50]⟩ = w3 at *
  have HR2_1_2_3 := Lib.hid (And.intro (show RepAt w3 gr1 0 ByteArray.empty from (HZ3.out.oth _ (by have := HR2_1_2.out.2; omega) (by have := HR2_1_2.out.1.lt; omega)).trans (HR2_1_2.out.1.below (KeptW.bel hyk))) HR2_1_2.out.2)
  have HR3_2_3 := Lib.hid (And.intro (show RepAt w3 gr2 0 ByteArray.empty from (HZ3.out.oth _ (by have := HR3_2.out.2; omega) (by have := HR3_2.out.1.lt; omega)).trans (HR3_2.out.1.below (KeptW.bel hyk))) HR3_2.out.2)
  have HSa_3 := Lib.hid HZ3.out.st
  have HTa_3 := Lib.hid (HZ3.out.tree _ (HX3.out.1.below (KeptW.bel hy)))
  have HEa_3 := Lib.hid (And.intro HP3.out (And.intro HX3.out.2.1 (show X3.cnt ≤ 3 from Nat.le_trans HX3.out.2.2 (by have := HEa_2.out.2.2; omega))))
  have HR4_3 := Lib.hid (And.intro HZ3.out.rep (show w.heap.size < gr3 by have := HSa_2.out.lt; have := HB2.out.size; omega))
  have HB3 := Lib.hid (HZ3.out.bel _ _ (HB2.out.trans (Below.mono (KeptW.bel hyk) HB2.out.size)) (by have := HB2.out.size; omega) (by have := HB2.out.size; omega))
  clear HR2_1_2 HR3_2 HB2 HZ3 HX3 HP3 HSa_2 HTa_2 HEa_2 hyk hy hne hrl hxc
  skip
  go_upto_region 5 with fail
  refine (wpIn_wide (n := 1)).1 ?_
  refine RegL.wpIn_region_lays (F := Fence.wide) (KeptW w3) [⟨6, 5, .cells #[.pointer none] 96 (0, 0)⟩, ⟨7, 6, .cells (repCells 0 ByteArray.empty).toArray 98 (0, 0)⟩] [(0, 0), (1, 1), (2, 1), (3, 2), (4, 2), (5, 2), (8, 3), (9, 3)] (by kernel_rfl) (by kernel_rfl) (by kernel_rfl) (fun p hp => by simp only [List.mem_cons, List.not_mem_nil, or_false] at hp; rcases hp with rfl | rfl; exact lays_any laySt rfl; exact lays_any layRep rfl)
    (fun _ _ d _ _ h => by cases d <;> exact h) (fun _ _ d _ _ h => by cases d <;> exact h) ⟨rfl, rfl, rfl, Nat.le_refl _, fun _ _ => rfl⟩ (keptW_mono w3) ?_
  dsimp only [RegK.pick, List.getElem?_cons_zero, List.getElem?_cons_succ]
  refine RegL.reads ?_
  intro K hK
  go_simp
  refine ⟨.agg #[.pointer P3], fun y hy => ?_, hK _ ?_⟩
  · have f0 := (HSa_3.out.below (KeptW.bel hy)).cell
    go_simp
  clear hK K
  refine RegL.adds (fun _ => trivial) ?_
  go_simp
  intro x hx K hK
  refine ⟨trivial, ?_⟩
  refine (callsIn_wide.2 (show Calls Try.prog 53 #[.int .u8 3, .string { data := #[97] }, .string { data := #[] }, .string { data := #[] }] x (fun e w' => e = .returned (.agg #[.int .u8 0, .int .u32 1, .int .u8 3, .string { data := #[97] }, .string { data := #[] }, .string { data := #[] }, .int .u8 0]) ∧ Below x.heap.size x w') from of_any 3 ⟨#[97]⟩ ByteArray.empty ByteArray.empty x)).mono ?_
  rintro e xb4 ⟨rfl, hb⟩
  have hxb : KeptW w3 xb4 := KeptW.mono hx hb
  refine hK (KeptW xb4) _ _ hb (fun y h => KeptW.mono hxb (KeptW.bel h)) (keptW_mono xb4) (Below.refl _ _) ?_
  clear hK K hb hx
  refine RegL.adds (fun _ => trivial) ?_
  go_simp
  intro x hx K hK
  refine ⟨trivial, ?_⟩
  have hxk : KeptW w3 x := KeptW.mono hxb (KeptW.bel hx)
  have hd := do_any (ofC 3 ⟨#[97]⟩ ByteArray.empty ByteArray.empty) X3 x (HTa_3.out.below (KeptW.bel hxk)) (by have := HEa_3.out.2.2; omega)
  rw [HEa_3.out.1, HEa_3.out.2.1, show kvDo _ (ofC 3 ⟨#[97]⟩ ByteArray.empty ByteArray.empty) = wk3 from rfl, (wk3_is).1, (wk3_is).2] at hd
  refine (callsIn_wide.2 (show Calls Try.prog 52 #[.agg #[.pointer P3], .agg #[.int .u8 0, .int .u32 1, .int .u8 3, .string { data := #[97] }, .string { data := #[] }, .string { data := #[] }, .int .u8 0]] x (fun e w' => ∃ X, e = .returned (.tuple #[.agg #[.pointer X.ptr], .agg #[.int .u8 0, .string { data := #[50] }]]) ∧ KvPost X3 wk3 _ x w' X) from hd)).mono ?_
  clear hd
  rintro e xc4 ⟨X4, rfl, hX⟩
  have hxc : KeptW w3 xc4 := KeptW.mono hxk hX.bel
  refine hK (KeptW xc4) _ _ hX.bel (fun y h => KeptW.mono (KeptW.mono hx hX.bel) (KeptW.bel h)) (keptW_mono xc4) (Below.refl _ _) ?_
  have HX4 := Lib.hid (And.intro hX.at_ (And.intro hX.shp hX.num))
  clear hK K hX hx hxk hxb
  obtain ⟨P4, hP4⟩ : ∃ P, X4.ptr = P := ⟨_, rfl⟩
  rw [hP4]
  have HP4 := Lib.hid hP4; clear hP4
  iterate 3 (refine RegL.pures ?_; intro K hK; go_simp; (first | (refine ⟨_, fun _ => rfl, hK _ ?_⟩) | (refine hK _ ?_)); clear hK K)
  refine RegL.last ?_
  intro g y hF hy
  have hyk : KeptW w3 y := KeptW.mono hxc (KeptW.bel hy)
  obtain ⟨hg1, hg2⟩ := hF.1 ⟨6, 5, .cells #[.pointer none] 96 (0, 0)⟩ (by simp) rfl
  obtain ⟨hg3, hg4⟩ := hF.1 ⟨7, 6, .cells (repCells 0 ByteArray.empty).toArray 98 (0, 0)⟩ (by simp) rfl
  have hne : g 7 ≠ g 6 := hF.2 ⟨7, 6, .cells (repCells 0 ByteArray.empty).toArray 98 (0, 0)⟩ (by simp) ⟨6, 5, .cells #[.pointer none] 96 (0, 0)⟩ (by simp) rfl rfl (by simp)
  have hs : VarAt y (g 6) (.pointer none) 96 := hg1
  have hr : RepAt y (g 7) 0 ByteArray.empty := hg3
  have hsl : w3.heap.size ≤ g 6 := hg2
  have hrl : w3.heap.size ≤ g 7 := hg4
  simp only [RegL.putS, RegL.ptr, if_true]
  clear hF hg1 hg2 hg3 hg4
  generalize g 6 = gs4 at *
  generalize g 7 = gr4 at *
  have hr2 : RepAt (y.setCell ⟨gs4, 0, none⟩ (.pointer P4)) gr4 0 ByteArray.empty := hr.other hne
  have f0 := hs.cell
  have f1 := hs.thawed 0
  obtain ⟨f2, f3⟩ := hr2.cells
  have f4 := hr2.thawed 0
  have f5 := hr2.thawed 1
  have HZ4 := Lib.hid (st_end hs hr hne P4 0 ⟨#[50]⟩)
  clear hs hr hr2
  refine RegK.can_frees (fun _ => trivial) ?_
  intro K K0 hK hK0
  go_simp
  refine hK (fun _ => True) _ _ trivial ?_
  clear hK K hK0 K0
  refine RegK.can_frees (fun _ => trivial) ?_
  intro K K0 hK hK0
  go_simp
  refine hK (fun _ => True) _ _ trivial ?_
  clear hK K hK0 K0
  refine RegK.can_nil ?_
  clear f0 f1 f2 f3 f4 f5
  change Exit.then _ _ _ _ (stW y gs4 gr4 P4 0 ⟨#[50]⟩)
  generalize stW y gs4 gr4 P4 0 ⟨#[50]⟩ = w4 at *
  have HSa_3_4 := Lib.hid (show VarAt w4 w.heap.size (.pointer P3) 96 from (HZ4.out.oth _ (by have := HSa_3.out.lt; omega) (by have := HSa_3.out.lt; omega)).trans (HSa_3.out.below (KeptW.bel hyk)))
  have HTa_3_4 := Lib.hid (HZ4.out.tree _ (HTa_3.out.below (KeptW.bel hyk)))
  have HR2_1_2_3_4 := Lib.hid (And.intro (show RepAt w4 gr1 0 ByteArray.empty from (HZ4.out.oth _ (by have := HR2_1_2_3.out.1.lt; omega) (by have := HR2_1_2_3.out.1.lt; omega)).trans (HR2_1_2_3.out.1.below (KeptW.bel hyk))) HR2_1_2_3.out.2)
  have HR3_2_3_4 := Lib.hid (And.intro (show RepAt w4 gr2 0 ByteArray.empty from (HZ4.out.oth _ (by have := HR3_2_3.out.1.lt; omega) (by have := HR3_2_3.out.1.lt; omega)).trans (HR3_2_3.out.1.below (KeptW.bel hyk))) HR3_2_3.out.2)
  have HR4_3_4 := Lib.hid (And.intro (show RepAt w4 gr3 2 ⟨#[50]⟩ from (HZ4.out.oth _ (by have := HR4_3.out.1.lt; omega) (by have := HR4_3.out.1.lt; omega)).trans (HR4_3.out.1.below (KeptW.bel hyk))) HR4_3.out.2)
  have HSb_4 := Lib.hid HZ4.out.st
  have HTb_4 := Lib.hid (HZ4.out.tree _ (HX4.out.1.below (KeptW.bel hy)))
  have HEb_4 := Lib.hid (And.intro HP4.out (And.intro HX4.out.2.1 (show X4.cnt ≤ 4 from Nat.le_trans HX4.out.2.2 (by have := HEa_3.out.2.2; omega))))
  have HR6_4 := Lib.hid (And.intro HZ4.out.rep (show w.heap.size < gr4 by have := HSa_3.out.lt; have := HB3.out.size; omega))
  have HB4 := Lib.hid (HZ4.out.bel _ _ (HB3.out.trans (Below.mono (KeptW.bel hyk) HB3.out.size)) (by have := HB3.out.size; omega) (by have := HB3.out.size; omega))
  clear HSa_3 HTa_3 HR2_1_2_3 HR3_2_3 HR4_3 HB3 HZ4 HX4 HP4 hyk hy hne hrl hxc hsl
  skip
  go_upto_region 6 with fail
  refine (wpIn_wide (n := 1)).1 ?_
  refine RegL.wpIn_region_lays (F := Fence.wide) (KeptW w4) [⟨6, 7, .cells #[.pointer none] 96 (0, 0)⟩, ⟨7, 8, .cells (repCells 0 ByteArray.empty).toArray 98 (0, 0)⟩] [(0, 0), (1, 1), (2, 1), (3, 2), (4, 2), (5, 2), (8, 3), (9, 3)] (by kernel_rfl) (by kernel_rfl) (by kernel_rfl) (fun p hp => by simp only [List.mem_cons, List.not_mem_nil, or_false] at hp; rcases hp with rfl | rfl; exact lays_any laySt rfl; exact lays_any layRep rfl)
    (fun _ _ d _ _ h => by cases d <;> exact h) (fun _ _ d _ _ h => by cases d <;> exact h) ⟨rfl, rfl, rfl, Nat.le_refl _, fun _ _ => rfl⟩ (keptW_mono w4) ?_
  dsimp only [RegK.pick, List.getElem?_cons_zero, List.getElem?_cons_succ]
  refine RegL.reads ?_
  intro K hK
  go_simp
  refine ⟨.agg #[.pointer P4], fun y hy => ?_, hK _ ?_⟩
  · have f0 := (HSb_4.out.below (KeptW.bel hy)).cell
    go_simp
  clear hK K
  refine RegL.adds (fun _ => trivial) ?_
  go_simp
  intro x hx K hK
  refine ⟨trivial, ?_⟩
  refine (callsIn_wide.2 (show Calls Try.prog 53 #[.int .u8 1, .string { data := #[97] }, .string { data := #[] }, .string { data := #[] }] x (fun e w' => e = .returned (.agg #[.int .u8 0, .int .u32 1, .int .u8 1, .string { data := #[97] }, .string { data := #[] }, .string { data := #[] }, .int .u8 0]) ∧ Below x.heap.size x w') from of_any 1 ⟨#[97]⟩ ByteArray.empty ByteArray.empty x)).mono ?_
  rintro e xb5 ⟨rfl, hb⟩
  have hxb : KeptW w4 xb5 := KeptW.mono hx hb
  refine hK (KeptW xb5) _ _ hb (fun y h => KeptW.mono hxb (KeptW.bel h)) (keptW_mono xb5) (Below.refl _ _) ?_
  clear hK K hb hx
  refine RegL.adds (fun _ => trivial) ?_
  go_simp
  intro x hx K hK
  refine ⟨trivial, ?_⟩
  have hxk : KeptW w4 x := KeptW.mono hxb (KeptW.bel hx)
  have hd := do_any (ofC 1 ⟨#[97]⟩ ByteArray.empty ByteArray.empty) X4 x (HTb_4.out.below (KeptW.bel hxk)) (by have := HEb_4.out.2.2; omega)
  rw [HEb_4.out.1, HEb_4.out.2.1, show kvDo _ (ofC 1 ⟨#[97]⟩ ByteArray.empty ByteArray.empty) = wk4 from rfl, (wk4_is).1, (wk4_is).2] at hd
  refine (callsIn_wide.2 (show Calls Try.prog 52 #[.agg #[.pointer P4], .agg #[.int .u8 0, .int .u32 1, .int .u8 1, .string { data := #[97] }, .string { data := #[] }, .string { data := #[] }, .int .u8 0]] x (fun e w' => ∃ X, e = .returned (.tuple #[.agg #[.pointer X.ptr], .agg #[.int .u8 1, .string { data := #[] }]]) ∧ KvPost X4 wk4 _ x w' X) from hd)).mono ?_
  clear hd
  rintro e xc5 ⟨X5, rfl, hX⟩
  have hxc : KeptW w4 xc5 := KeptW.mono hxk hX.bel
  refine hK (KeptW xc5) _ _ hX.bel (fun y h => KeptW.mono (KeptW.mono hx hX.bel) (KeptW.bel h)) (keptW_mono xc5) (Below.refl _ _) ?_
  have HX5 := Lib.hid (And.intro hX.at_ (And.intro hX.shp hX.num))
  clear hK K hX hx hxk hxb
  obtain ⟨P5, hP5⟩ : ∃ P, X5.ptr = P := ⟨_, rfl⟩
  rw [hP5]
  have HP5 := Lib.hid hP5; clear hP5
  iterate 3 (refine RegL.pures ?_; intro K hK; go_simp; (first | (refine ⟨_, fun _ => rfl, hK _ ?_⟩) | (refine hK _ ?_)); clear hK K)
  refine RegL.last ?_
  intro g y hF hy
  have hyk : KeptW w4 y := KeptW.mono hxc (KeptW.bel hy)
  obtain ⟨hg1, hg2⟩ := hF.1 ⟨6, 7, .cells #[.pointer none] 96 (0, 0)⟩ (by simp) rfl
  obtain ⟨hg3, hg4⟩ := hF.1 ⟨7, 8, .cells (repCells 0 ByteArray.empty).toArray 98 (0, 0)⟩ (by simp) rfl
  have hne : g 7 ≠ g 6 := hF.2 ⟨7, 8, .cells (repCells 0 ByteArray.empty).toArray 98 (0, 0)⟩ (by simp) ⟨6, 7, .cells #[.pointer none] 96 (0, 0)⟩ (by simp) rfl rfl (by simp)
  have hs : VarAt y (g 6) (.pointer none) 96 := hg1
  have hr : RepAt y (g 7) 0 ByteArray.empty := hg3
  have hsl : w4.heap.size ≤ g 6 := hg2
  have hrl : w4.heap.size ≤ g 7 := hg4
  simp only [RegL.putS, RegL.ptr, if_true]
  clear hF hg1 hg2 hg3 hg4
  generalize g 6 = gs5 at *
  generalize g 7 = gr5 at *
  have hr2 : RepAt (y.setCell ⟨gs5, 0, none⟩ (.pointer P5)) gr5 0 ByteArray.empty := hr.other hne
  have f0 := hs.cell
  have f1 := hs.thawed 0
  obtain ⟨f2, f3⟩ := hr2.cells
  have f4 := hr2.thawed 0
  have f5 := hr2.thawed 1
  have HZ5 := Lib.hid (st_end hs hr hne P5 1 ByteArray.empty)
  clear hs hr hr2
  refine RegK.can_frees (fun _ => trivial) ?_
  intro K K0 hK hK0
  go_simp
  refine hK (fun _ => True) _ _ trivial ?_
  clear hK K hK0 K0
  refine RegK.can_frees (fun _ => trivial) ?_
  intro K K0 hK hK0
  go_simp
  refine hK (fun _ => True) _ _ trivial ?_
  clear hK K hK0 K0
  refine RegK.can_nil ?_
  clear f0 f1 f2 f3 f4 f5
  change Exit.then _ _ _ _ (stW y gs5 gr5 P5 1 ByteArray.empty)
  generalize stW y gs5 gr5 P5 1 ByteArray.empty = w5 at *
  have HSa_3_4_5 := Lib.hid (show VarAt w5 w.heap.size (.pointer P3) 96 from (HZ5.out.oth _ (by have := HSa_3_4.out.lt; omega) (by have := HSa_3_4.out.lt; omega)).trans (HSa_3_4.out.below (KeptW.bel hyk)))
  have HTa_3_4_5 := Lib.hid (HZ5.out.tree _ (HTa_3_4.out.below (KeptW.bel hyk)))
  have HSb_4_5 := Lib.hid (show VarAt w5 gs4 (.pointer P4) 96 from (HZ5.out.oth _ (by have := HSb_4.out.lt; omega) (by have := HSb_4.out.lt; omega)).trans (HSb_4.out.below (KeptW.bel hyk)))
  have HTb_4_5 := Lib.hid (HZ5.out.tree _ (HTb_4.out.below (KeptW.bel hyk)))
  have HR2_1_2_3_4_5 := Lib.hid (And.intro (show RepAt w5 gr1 0 ByteArray.empty from (HZ5.out.oth _ (by have := HR2_1_2_3_4.out.1.lt; omega) (by have := HR2_1_2_3_4.out.1.lt; omega)).trans (HR2_1_2_3_4.out.1.below (KeptW.bel hyk))) HR2_1_2_3_4.out.2)
  have HR3_2_3_4_5 := Lib.hid (And.intro (show RepAt w5 gr2 0 ByteArray.empty from (HZ5.out.oth _ (by have := HR3_2_3_4.out.1.lt; omega) (by have := HR3_2_3_4.out.1.lt; omega)).trans (HR3_2_3_4.out.1.below (KeptW.bel hyk))) HR3_2_3_4.out.2)
  have HR4_3_4_5 := Lib.hid (And.intro (show RepAt w5 gr3 2 ⟨#[50]⟩ from (HZ5.out.oth _ (by have := HR4_3_4.out.1.lt; omega) (by have := HR4_3_4.out.1.lt; omega)).trans (HR4_3_4.out.1.below (KeptW.bel hyk))) HR4_3_4.out.2)
  have HR6_4_5 := Lib.hid (And.intro (show RepAt w5 gr4 0 ⟨#[50]⟩ from (HZ5.out.oth _ (by have := HR6_4.out.1.lt; omega) (by have := HR6_4.out.1.lt; omega)).trans (HR6_4.out.1.below (KeptW.bel hyk))) HR6_4.out.2)
  have HSc_5 := Lib.hid HZ5.out.st
  have HTc_5 := Lib.hid (HZ5.out.tree _ (HX5.out.1.below (KeptW.bel hy)))
  have HEc_5 := Lib.hid (And.intro HP5.out (And.intro HX5.out.2.1 (show X5.cnt ≤ 5 from Nat.le_trans HX5.out.2.2 (by have := HEb_4.out.2.2; omega))))
  have HR8_5 := Lib.hid (And.intro HZ5.out.rep (show w.heap.size < gr5 by have := HSa_3_4.out.lt; have := HB4.out.size; omega))
  have HB5 := Lib.hid (HZ5.out.bel _ _ (HB4.out.trans (Below.mono (KeptW.bel hyk) HB4.out.size)) (by have := HB4.out.size; omega) (by have := HB4.out.size; omega))
  clear HSa_3_4 HTa_3_4 HSb_4 HTb_4 HR2_1_2_3_4 HR3_2_3_4 HR4_3_4 HR6_4 HB4 HZ5 HX5 HP5 hyk hy hne hrl hxc hsl
  skip
  go_upto_region 7 with fail
  refine (wpIn_wide (n := 1)).1 ?_
  refine RegL.wpIn_region_lays (F := Fence.wide) (KeptW w5) [⟨6, 9, .cells #[.pointer none] 96 (0, 0)⟩, ⟨7, 10, .cells (repCells 0 ByteArray.empty).toArray 98 (0, 0)⟩] [(0, 0), (1, 1), (2, 1), (3, 2), (4, 2), (5, 2), (8, 3), (9, 3)] (by kernel_rfl) (by kernel_rfl) (by kernel_rfl) (fun p hp => by simp only [List.mem_cons, List.not_mem_nil, or_false] at hp; rcases hp with rfl | rfl; exact lays_any laySt rfl; exact lays_any layRep rfl)
    (fun _ _ d _ _ h => by cases d <;> exact h) (fun _ _ d _ _ h => by cases d <;> exact h) ⟨rfl, rfl, rfl, Nat.le_refl _, fun _ _ => rfl⟩ (keptW_mono w5) ?_
  dsimp only [RegK.pick, List.getElem?_cons_zero, List.getElem?_cons_succ]
  refine RegL.reads ?_
  intro K hK
  go_simp
  refine ⟨.agg #[.pointer P3], fun y hy => ?_, hK _ ?_⟩
  · have f0 := (HSa_3_4_5.out.below (KeptW.bel hy)).cell
    go_simp
  clear hK K
  refine RegL.adds (fun _ => trivial) ?_
  go_simp
  intro x hx K hK
  refine ⟨trivial, ?_⟩
  refine (callsIn_wide.2 (show Calls Try.prog 53 #[.int .u8 1, .string { data := #[97] }, .string { data := #[] }, .string { data := #[] }] x (fun e w' => e = .returned (.agg #[.int .u8 0, .int .u32 1, .int .u8 1, .string { data := #[97] }, .string { data := #[] }, .string { data := #[] }, .int .u8 0]) ∧ Below x.heap.size x w') from of_any 1 ⟨#[97]⟩ ByteArray.empty ByteArray.empty x)).mono ?_
  rintro e xb6 ⟨rfl, hb⟩
  have hxb : KeptW w5 xb6 := KeptW.mono hx hb
  refine hK (KeptW xb6) _ _ hb (fun y h => KeptW.mono hxb (KeptW.bel h)) (keptW_mono xb6) (Below.refl _ _) ?_
  clear hK K hb hx
  refine RegL.adds (fun _ => trivial) ?_
  go_simp
  intro x hx K hK
  refine ⟨trivial, ?_⟩
  have hxk : KeptW w5 x := KeptW.mono hxb (KeptW.bel hx)
  have hd := do_any (ofC 1 ⟨#[97]⟩ ByteArray.empty ByteArray.empty) X3 x (HTa_3_4_5.out.below (KeptW.bel hxk)) (by have := HEa_3.out.2.2; omega)
  rw [HEa_3.out.1, HEa_3.out.2.1, show kvDo _ (ofC 1 ⟨#[97]⟩ ByteArray.empty ByteArray.empty) = wk5 from rfl, (wk5_is).1, (wk5_is).2] at hd
  refine (callsIn_wide.2 (show Calls Try.prog 52 #[.agg #[.pointer P3], .agg #[.int .u8 0, .int .u32 1, .int .u8 1, .string { data := #[97] }, .string { data := #[] }, .string { data := #[] }, .int .u8 0]] x (fun e w' => ∃ X, e = .returned (.tuple #[.agg #[.pointer X.ptr], .agg #[.int .u8 0, .string { data := #[50] }]]) ∧ KvPost X3 wk5 _ x w' X) from hd)).mono ?_
  clear hd
  rintro e xc6 ⟨X6, rfl, hX⟩
  have hxc : KeptW w5 xc6 := KeptW.mono hxk hX.bel
  refine hK (KeptW xc6) _ _ hX.bel (fun y h => KeptW.mono (KeptW.mono hx hX.bel) (KeptW.bel h)) (keptW_mono xc6) (Below.refl _ _) ?_
  have HX6 := Lib.hid (And.intro hX.at_ (And.intro hX.shp hX.num))
  clear hK K hX hx hxk hxb
  obtain ⟨P6, hP6⟩ : ∃ P, X6.ptr = P := ⟨_, rfl⟩
  rw [hP6]
  have HP6 := Lib.hid hP6; clear hP6
  iterate 3 (refine RegL.pures ?_; intro K hK; go_simp; (first | (refine ⟨_, fun _ => rfl, hK _ ?_⟩) | (refine hK _ ?_)); clear hK K)
  refine RegL.last ?_
  intro g y hF hy
  have hyk : KeptW w5 y := KeptW.mono hxc (KeptW.bel hy)
  obtain ⟨hg1, hg2⟩ := hF.1 ⟨6, 9, .cells #[.pointer none] 96 (0, 0)⟩ (by simp) rfl
  obtain ⟨hg3, hg4⟩ := hF.1 ⟨7, 10, .cells (repCells 0 ByteArray.empty).toArray 98 (0, 0)⟩ (by simp) rfl
  have hne : g 7 ≠ g 6 := hF.2 ⟨7, 10, .cells (repCells 0 ByteArray.empty).toArray 98 (0, 0)⟩ (by simp) ⟨6, 9, .cells #[.pointer none] 96 (0, 0)⟩ (by simp) rfl rfl (by simp)
  have hs : VarAt y (g 6) (.pointer none) 96 := hg1
  have hr : RepAt y (g 7) 0 ByteArray.empty := hg3
  have hsl : w5.heap.size ≤ g 6 := hg2
  have hrl : w5.heap.size ≤ g 7 := hg4
  simp only [RegL.putS, RegL.ptr, if_true]
  clear hF hg1 hg2 hg3 hg4
  generalize g 6 = gs6 at *
  generalize g 7 = gr6 at *
  have hr2 : RepAt (y.setCell ⟨gs6, 0, none⟩ (.pointer P6)) gr6 0 ByteArray.empty := hr.other hne
  have f0 := hs.cell
  have f1 := hs.thawed 0
  obtain ⟨f2, f3⟩ := hr2.cells
  have f4 := hr2.thawed 0
  have f5 := hr2.thawed 1
  have HZ6 := Lib.hid (st_end hs hr hne P6 0 ⟨#[50]⟩)
  clear hs hr hr2
  refine RegK.can_frees (fun _ => trivial) ?_
  intro K K0 hK hK0
  go_simp
  refine hK (fun _ => True) _ _ trivial ?_
  clear hK K hK0 K0
  refine RegK.can_frees (fun _ => trivial) ?_
  intro K K0 hK hK0
  go_simp
  refine hK (fun _ => True) _ _ trivial ?_
  clear hK K hK0 K0
  refine RegK.can_nil ?_
  clear f0 f1 f2 f3 f4 f5
  change Exit.then _ _ _ _ (stW y gs6 gr6 P6 0 ⟨#[50]⟩)
  generalize stW y gs6 gr6 P6 0 ⟨#[50]⟩ = w6 at *
  have HSa_3_4_5_6 := Lib.hid (show VarAt w6 w.heap.size (.pointer P3) 96 from (HZ6.out.oth _ (by have := HSa_3_4_5.out.lt; omega) (by have := HSa_3_4_5.out.lt; omega)).trans (HSa_3_4_5.out.below (KeptW.bel hyk)))
  have HTa_3_4_5_6 := Lib.hid (HZ6.out.tree _ (HTa_3_4_5.out.below (KeptW.bel hyk)))
  have HSb_4_5_6 := Lib.hid (show VarAt w6 gs4 (.pointer P4) 96 from (HZ6.out.oth _ (by have := HSb_4_5.out.lt; omega) (by have := HSb_4_5.out.lt; omega)).trans (HSb_4_5.out.below (KeptW.bel hyk)))
  have HTb_4_5_6 := Lib.hid (HZ6.out.tree _ (HTb_4_5.out.below (KeptW.bel hyk)))
  have HSc_5_6 := Lib.hid (show VarAt w6 gs5 (.pointer P5) 96 from (HZ6.out.oth _ (by have := HSc_5.out.lt; omega) (by have := HSc_5.out.lt; omega)).trans (HSc_5.out.below (KeptW.bel hyk)))
  have HTc_5_6 := Lib.hid (HZ6.out.tree _ (HTc_5.out.below (KeptW.bel hyk)))
  have HR2_1_2_3_4_5_6 := Lib.hid (And.intro (show RepAt w6 gr1 0 ByteArray.empty from (HZ6.out.oth _ (by have := HR2_1_2_3_4_5.out.1.lt; omega) (by have := HR2_1_2_3_4_5.out.1.lt; omega)).trans (HR2_1_2_3_4_5.out.1.below (KeptW.bel hyk))) HR2_1_2_3_4_5.out.2)
  have HR3_2_3_4_5_6 := Lib.hid (And.intro (show RepAt w6 gr2 0 ByteArray.empty from (HZ6.out.oth _ (by have := HR3_2_3_4_5.out.1.lt; omega) (by have := HR3_2_3_4_5.out.1.lt; omega)).trans (HR3_2_3_4_5.out.1.below (KeptW.bel hyk))) HR3_2_3_4_5.out.2)
  have HR4_3_4_5_6 := Lib.hid (And.intro (show RepAt w6 gr3 2 ⟨#[50]⟩ from (HZ6.out.oth _ (by have := HR4_3_4_5.out.1.lt; omega) (by have := HR4_3_4_5.out.1.lt; omega)).trans (HR4_3_4_5.out.1.below (KeptW.bel hyk))) HR4_3_4_5.out.2)
  have HR6_4_5_6 := Lib.hid (And.intro (show RepAt w6 gr4 0 ⟨#[50]⟩ from (HZ6.out.oth _ (by have := HR6_4_5.out.1.lt; omega) (by have := HR6_4_5.out.1.lt; omega)).trans (HR6_4_5.out.1.below (KeptW.bel hyk))) HR6_4_5.out.2)
  have HR8_5_6 := Lib.hid (And.intro (show RepAt w6 gr5 1 ByteArray.empty from (HZ6.out.oth _ (by have := HR8_5.out.1.lt; omega) (by have := HR8_5.out.1.lt; omega)).trans (HR8_5.out.1.below (KeptW.bel hyk))) HR8_5.out.2)
  have HSd_6 := Lib.hid HZ6.out.st
  have HTd_6 := Lib.hid (HZ6.out.tree _ (HX6.out.1.below (KeptW.bel hy)))
  have HEd_6 := Lib.hid (And.intro HP6.out (And.intro HX6.out.2.1 (show X6.cnt ≤ 4 from Nat.le_trans HX6.out.2.2 (by have := HEa_3.out.2.2; omega))))
  have HR10_6 := Lib.hid (And.intro HZ6.out.rep (show w.heap.size < gr6 by have := HSa_3_4_5.out.lt; have := HB5.out.size; omega))
  have HB6 := Lib.hid (HZ6.out.bel _ _ (HB5.out.trans (Below.mono (KeptW.bel hyk) HB5.out.size)) (by have := HB5.out.size; omega) (by have := HB5.out.size; omega))
  clear HSa_3_4_5 HTa_3_4_5 HSb_4_5 HTb_4_5 HSc_5 HTc_5 HR2_1_2_3_4_5 HR3_2_3_4_5 HR4_3_4_5 HR6_4_5 HR8_5 HB5 HZ6 HX6 HP6 hyk hy hne hrl hxc hsl
  skip
  obtain ⟨e20, e21⟩ := HR2_1_2_3_4_5_6.out.1.cells
  obtain ⟨e30, e31⟩ := HR3_2_3_4_5_6.out.1.cells
  obtain ⟨e40, e41⟩ := HR4_3_4_5_6.out.1.cells
  obtain ⟨e60, e61⟩ := HR6_4_5_6.out.1.cells
  obtain ⟨e80, e81⟩ := HR8_5_6.out.1.cells
  obtain ⟨e100, e101⟩ := HR10_6.out.1.cells
  go_wp2_with fail
  go_ret
  exact ⟨rfl, HB6.out⟩
end Go.Proofs.Ytimhpncdlaildaa
