/- Chains: LearnNil. Condition: the chain lies there. -/
import Derived.Test.YtbckjgageofldaaGreatZLearnNil52
namespace Go.Proofs.YtbckjgageofldaaGreat
open Go.RowKit
theorem lt_u64 {n : Int} (h : (Lit.int .u64 n).wf = true) : ∃ x : Nat, n = (x : Int) ∧ x < 18446744073709551616 := by
 have h' : 0 ≤ n ∧ n ≤ 18446744073709551615 := by simpa [Lit.wf, IntKind.min, IntKind.max, IntKind.signed, IntKind.bits] using h
 exact ⟨n.toNat, by omega, by omega⟩
theorem rn_cells15 {w : World} {g : Nat} {R : RnV} (h : RnAt w g R) : w.cell? ⟨g, 0, none⟩ = some (.int .u8 (R.M.all : Int)) ∧ w.cell? ⟨g, 1, none⟩ = some (.int .u8 (R.M.mem : Int)) ∧ w.cell? ⟨g, 2, none⟩ = some (.int .u32 (R.M.tab.a.seq.toNat : Int)) ∧ w.cell? ⟨g, 3, none⟩ = some (.int .u8 (R.M.tab.a.code : Int)) ∧ w.cell? ⟨g, 4, none⟩ = some (.string R.M.tab.a.text) ∧ w.cell? ⟨g, 5, none⟩ = some (.int .u32 (R.M.tab.b.seq.toNat : Int)) ∧ w.cell? ⟨g, 6, none⟩ = some (.int .u8 (R.M.tab.b.code : Int)) ∧ w.cell? ⟨g, 7, none⟩ = some (.string R.M.tab.b.text) ∧ w.cell? ⟨g, 8, none⟩ = some (.int .u32 (R.M.tab.c.seq.toNat : Int)) ∧ w.cell? ⟨g, 9, none⟩ = some (.int .u8 (R.M.tab.c.code : Int)) ∧ w.cell? ⟨g, 10, none⟩ = some (.string R.M.tab.c.text) ∧ w.cell? ⟨g, 11, none⟩ = some (.int .u32 (R.M.tab.d.seq.toNat : Int)) ∧ w.cell? ⟨g, 12, none⟩ = some (.int .u8 (R.M.tab.d.code : Int)) ∧ w.cell? ⟨g, 13, none⟩ = some (.string R.M.tab.d.text) ∧ w.cell? ⟨g, 14, none⟩ = some (.pointer R.P) := by
 have h' : w.heap[g]? = some (.cells (rnCells R).toArray 48 (0, 0)) := h
 exact ⟨cell_of_row _ _ _ _ _ _ h', cell_of_row _ _ _ _ _ _ h', cell_of_row _ _ _ _ _ _ h', cell_of_row _ _ _ _ _ _ h', cell_of_row _ _ _ _ _ _ h', cell_of_row _ _ _ _ _ _ h', cell_of_row _ _ _ _ _ _ h', cell_of_row _ _ _ _ _ _ h', cell_of_row _ _ _ _ _ _ h', cell_of_row _ _ _ _ _ _ h', cell_of_row _ _ _ _ _ _ h', cell_of_row _ _ _ _ _ _ h', cell_of_row _ _ _ _ _ _ h', cell_of_row _ _ _ _ _ _ h', cell_of_row _ _ _ _ _ _ h'⟩
theorem ln_sets : mayS 7 7 = true := by decide +kernel
set_option maxRecDepth 100000 in
set_option maxHeartbeats 16000000 in
theorem learnNil_any (n : Nat) (w : World) : Calls Tryz.prog 3 #[.int .u64 (n : Int)] w fun e w' => e = .returned (.bool true) ∧ Below w.heap.size w w' := by
 obtain ⟨M0, hM0⟩ : ∃ M, newM 7 7 = M := ⟨_, rfl⟩
 have h0 : MacAll M0 := by rw [← hM0]; exact newAll (by omega) ln_sets
 have hm7 : M0.mem = 7 := by rw [← hM0]; decide +kernel
 have hbe := fun y : World => lbegun_is 7 7 (by omega) (by omega) ln_sets y
 rw [hM0] at hbe
 have Hbe := Lib.hid (show ∀ y : World, Calls Tryz.prog 8 #[.int .u8 7, .int .u8 7] y (BegPost M0 y) from hbe)
 have Hnew := Lib.hid lnew_any
 have Hld := Lib.hid (fun y : World => (show Calls Tryz.prog 9 #[.pointer none, .int .u64 (n : Int)] y fun e w' => e = .returned (.tuple #[.agg (lmCells lm0).toArray, .bool false]) ∧ Below y.heap.size y w' from lead_none none bs0 n (Nat.zero_le _) y (fun z _ => newest_nil z)))
 have HNn := Lib.hid (fun y : World => lnewest_zero none bs0 rfl y (newest_nil y))
 have H0 := Lib.hid (And.intro h0 hm7)
 clear hbe h0 hM0 hm7
 go_enter Tryz.func3, Tryz.ntmps3
 go_upto_region 3 with (first
  | ((with_reducible refine (Hbe.out _).mono ?_); rintro e w2 ⟨R0, p, cv0, rfl, hM, hI, hr, hp, hb⟩; have H2 := Lib.hid (And.intro hM (And.intro hI (And.intro hr (And.intro hp hb)))); clear hM hI hr hp hb; unfold rnV)
  | ((with_reducible refine wpList_store_mid rfl 48 _ _ rfl w2.heap.size 0 _ rfl rfl ?_ ?_ ?_ ?_); exact th_new w2 (rnCells rn0) 48; exact rn_size rn0; exact all_oneCell_toArray (rn_one R0 (slice_one _ H2.out.2.1.rv))))
 change Code.wp _ _ _ _ ((w2.alloc (.cells (rnCells rn0).toArray 48)).setCells w2.heap.size 0 (rnCells R0))
 have hb3 := box_below w2 (rnCells rn0) (rnCells R0) 48
 have hr3 : RnAt _ _ R0 := box_row w2 (rnCells rn0) (rnCells R0) 48 rfl
 have hbB := H2.out.2.2.2.2.trans (hb3.mono H2.out.2.2.2.2.size)
 have HR3 := Lib.hid (And.intro hr3 (And.intro (H2.out.2.1.below hb3) H2.out.1))
 have HB3 := Lib.hid hbB
 have Hgp := Lib.hid H2.out.2.2.2.2.size
 have Hpp := Lib.hid H2.out.2.2.2.1
 clear hb3 hr3 hbB H2 Hbe
 generalize (w2.alloc (.cells (rnCells rn0).toArray 48)).setCells w2.heap.size 0 (rnCells R0) = w3 at *
 generalize hgr : w2.heap.size = g at *
 clear hgr
 go_upto_region 4 with (first
  | ((with_reducible refine (Hld.out _).mono ?_); rintro e w9 ⟨rfl, h9⟩; have H9 := Lib.hid h9; clear h9)
  | ((with_reducible refine wpList_store_mid rfl 58 _ _ rfl w9.heap.size 0 _ rfl rfl ?_ ?_ ?_ ?_); exact th_new w9 (lmCells lm0) 58; exact lm_size; exact all_oneCell_toArray (lm_one lm0)))
 change Code.wp _ _ _ _ ((w9.alloc (.cells (lmCells lm0).toArray 58)).setCells w9.heap.size 0 (lmCells lm0))
 have hbx := box_below w9 (lmCells lm0) (lmCells lm0) 58
 have hb9 := H9.out.trans (hbx.mono H9.out.size)
 have HX4 := Lib.hid (show LmAt _ _ lm0 from box_row w9 (lmCells lm0) (lmCells lm0) 58 rfl)
 have HR4 := Lib.hid (And.intro (HR3.out.1.below hb9) (And.intro (HR3.out.2.1.below hb9) HR3.out.2.2))
 have HB4 := Lib.hid (HB3.out.trans (hb9.mono HB3.out.size))
 clear hbx hb9 H9 HR3 HB3 Hld
 generalize (w9.alloc (.cells (lmCells lm0).toArray 58)).setCells w9.heap.size 0 (lmCells lm0) = w4 at *
 generalize w9.heap.size = gx at *
 go_upto_region 5 with ((with_reducible refine (HNn.out _).mono ?_); rintro e w5 ⟨rfl, h5⟩; have H5 := Lib.hid h5; clear h5)
 have HX5 := Lib.hid (HX4.out.below H5.out)
 have HR5 := Lib.hid (And.intro (HR4.out.1.below H5.out) (And.intro (HR4.out.2.1.below H5.out) HR4.out.2.2))
 have HB5 := Lib.hid (HB4.out.trans (H5.out.mono HB4.out.size))
 clear HX4 HR4 HB4 H5 HNn
 have f15 : w5.cell? ⟨g, 15, none⟩ = some (.pointer R0.c) := cell_of_row _ _ _ _ _ _ (show w5.heap[g]? = some (.cells (rnCells R0).toArray _ (0, 0)) from HR5.out.1)
 have Hrl := Lib.hid (rn_there15 HR5.out.1)
 have Hpn := Lib.hid (fun y : World => (show Calls Tryz.prog 11 #[.pointer none, .pointer R0.c, .agg (macCells R0.M R0.P).toArray] y fun e w' => e = .returned (.int .i64 1) ∧ Below y.heap.size y w' from put_nil R0.c R0.M R0.P y))
 have Hsm := Lib.hid (fun y : World => (show Calls Tryz.prog 12 #[.agg (lmCells lm0).toArray, .agg #[.int .u8 0, .int .u64 0, .int .u8 0, .int .u64 0, .int .u64 0, .int .u8 0, .string ⟨#[]⟩, .slice none 0 0, .slice none 0 0, .int .u8 0, .int .u32 0, .int .u8 0, .string ⟨#[]⟩, .string ⟨#[]⟩, .string ⟨#[]⟩, .int .u8 0, .int .u8 0, .string ⟨#[]⟩]] y fun e w' => e = .returned (.bool true) ∧ Below y.heap.size y w' from same_self lm0 y))
 go_upto_region 7 with (first
  | (with_reducible refine wp_load_mid 38 _ rfl g 0 rfl (macCells R0.M R0.P) _ Hrl.out Tryz.underlying38 rfl (mac_size2 _ _) ?_)
  | ((with_reducible refine (Hpn.out _).mono ?_); rintro e w6 ⟨rfl, h6⟩; have H6 := Lib.hid h6; have Hrx := Lib.hid (show w6.rangeAt gx 0 (lmCells lm0) from range_row (HX5.out.below h6)); clear h6)
  | (with_reducible refine wp_load_mid 58 _ rfl gx 0 rfl (lmCells lm0) _ Hrx.out Tryz.underlying58 rfl (lm_size2 _) ?_)
  | ((with_reducible refine (Hsm.out _).mono ?_); rintro e w7 ⟨rfl, h7⟩; have H7 := Lib.hid h7; clear h7))
 have hb7 := H6.out.trans (H7.out.mono H6.out.size)
 have HR7 := Lib.hid (And.intro (HR5.out.1.below hb7) (And.intro (HR5.out.2.1.below hb7) HR5.out.2.2))
 have HB7 := Lib.hid (HB5.out.trans (hb7.mono HB5.out.size))
 clear hb7 H6 H7 Hrx HX5 HR5 HB5 f15 Hrl Hpn Hsm
 go_upto_region 8 with ((with_reducible refine (Hnew.out _).mono ?_); rintro e w8 ⟨rfl, hs8, hb8⟩; have HS8 := Lib.hid hs8; have H8 := Lib.hid hb8; clear hs8 hb8)
 have HR8 := Lib.hid (And.intro (HR7.out.1.below H8.out) (And.intro (HR7.out.2.1.below H8.out) HR7.out.2.2))
 have HB8 := Lib.hid (HB7.out.trans (H8.out.mono HB7.out.size))
 have Hps := Lib.hid HB7.out.size
 clear HR7 HB7 H8 Hnew
 generalize w7.heap.size = ps at *
 have f15 : w8.cell? ⟨g, 15, none⟩ = some (.pointer R0.c) := cell_of_row _ _ _ _ _ _ (show w8.heap[g]? = some (.cells (rnCells R0).toArray _ (0, 0)) from HR8.out.1)
 have Hrl := Lib.hid (rn_there15 HR8.out.1)
 have hpl := put_low ps R0.c bs0 R0.M R0.P 0 [UInt8.ofNat M0.mem] (by omega) (by simp) w8
  (fun y hy => newest_empty ps ps _ y (HS8.out.below hy))
  (fun y hy => by rw [HR8.out.2.1.cp]; exact top_any w.heap.size p cv0 ⟨0, [UInt8.ofNat M0.mem]⟩ (by simp) (by simp) y (HR8.out.2.1.ch.below hy))
  (fun y hy => by rw [HR8.out.2.1.cp]; exact chtail_any w.heap.size p cv0 ⟨0, [UInt8.ofNat M0.mem]⟩ (by simp) (by simp) y (HR8.out.2.1.ch.below hy)) (Nat.le_refl _)
 have Hpl := Lib.hid (show Calls Tryz.prog 11 #[.pointer (some ⟨ps, 0, none⟩), .pointer R0.c, .agg (macCells R0.M R0.P).toArray] w8 fun e w' => e = .returned (.int .i64 2) ∧ Below w8.heap.size w8 w' from hpl)
 clear hpl
 go_upto_region 9 with (first
  | (with_reducible refine wpList_load_mid rfl 38 _ rfl g 0 rfl (macCells R0.M R0.P) _ Hrl.out Tryz.underlying38 rfl (mac_size2 _ _) ?_)
  | ((with_reducible refine Hpl.out.mono ?_); rintro e w9 ⟨rfl, h9⟩; have H9 := Lib.hid h9; clear h9))
 have HR9 := Lib.hid (And.intro (HR8.out.1.below H9.out) (And.intro (HR8.out.2.1.below H9.out) HR8.out.2.2))
 have HS9 := Lib.hid (HS8.out.below H9.out)
 have HB9 := Lib.hid (HB8.out.trans (H9.out.mono HB8.out.size))
 have Hcs := Lib.hid (Nat.le_trans Hgp.out (Nat.le_refl _))
 clear HR8 HS8 HB8 H9 Hpl f15 Hrl
 have hpu := chpush_any w.heap.size p cv0 ⟨0, [UInt8.ofNat M0.mem]⟩ 3 (by omega) (by decide +kernel) (by simp) (by simp) (by simp) w9 HB9.out.size HR9.out.2.1.ch
 rw [← HR9.out.2.1.cp] at hpu
 have Hpu := Lib.hid (show Calls Tryz.prog 14 #[.pointer R0.c, .int .u8 3] w9 fun e w' => ∃ v', e = .returned (.int .i64 0) ∧ ChAt w' w.heap.size p v' (ChV.push ⟨0, [UInt8.ofNat M0.mem]⟩ (UInt8.ofNat 3)) ∧ Off (p :: cv0.ownBlock.toList) w9.heap.size w9 w' from hpu)
 have f15 : w9.cell? ⟨g, 15, none⟩ = some (.pointer R0.c) := cell_of_row _ _ _ _ _ _ (show w9.heap[g]? = some (.cells (rnCells R0).toArray _ (0, 0)) from HR9.out.1)
 clear hpu
 go_upto_region 10 with ((with_reducible refine Hpu.out.mono ?_); rintro e w10 ⟨cv1, rfl, hc10, ho10⟩; have H10 := Lib.hid (And.intro hc10 ho10); clear hc10 ho10)
 have hs10 := push_sorts HR9.out.2.1.ch H10.out.2
 have hr10 : RnAt w10 g R0 := hs10.row HR9.out.1 (by decide)
 have hsh10 : ShAt w10 ps ps (.slice none 0 0) [] := HS9.out.sorts hs10 (by decide) (by decide)
 have hb10 : Below w.heap.size w w10 := HB9.out.trans ((H10.out.2.mono HB9.out.size).below (fun q hq => by
  rcases List.mem_cons.1 hq with rfl | hq
  ·
   exact Hpp.out
  ·
   rcases HR9.out.2.1.ch.own.2 with ⟨e2, _⟩ | ⟨q2, _, _, e2, h5, _⟩
   ·
    rw [e2] at hq; simp [Value.ownBlock] at hq
   ·
    rw [e2] at hq
    have e3 : q = q2 := by simpa [Value.ownBlock] using hq
    omega))
 have Hr10 := Lib.hid hr10
 have Hsh10 := Lib.hid hsh10
 have Hb10 := Lib.hid hb10
 have Hcp := Lib.hid HR9.out.2.1.cp
 have hMm : R0.M.mem = 7 := by rw [HR9.out.2.2]; exact H0.out.2
 have htl : (ChV.push ⟨0, [UInt8.ofNat M0.mem]⟩ (UInt8.ofNat 3)).tail = [UInt8.ofNat M0.mem, UInt8.ofNat 3] := rfl
 have hpe := fun (y : World) (hy : Below w10.heap.size w10 y) => put_ends ps R0.c bs0 R0.M R0.P 1 [UInt8.ofNat M0.mem, UInt8.ofNat 3] (by omega) (by simp) y
  (fun z hz => newest_empty ps ps _ z ((Hsh10.out.below hy).below hz))
  (fun z hz => by rw [Hcp.out]; exact top_any w.heap.size p cv1 (ChV.push ⟨0, [UInt8.ofNat M0.mem]⟩ (UInt8.ofNat 3)) (by simp [ChV.push]) (by simp [ChV.push]) z ((H10.out.1.below hy).below hz))
  (fun z hz => by rw [Hcp.out, ← htl]; exact chtail_any w.heap.size p cv1 (ChV.push ⟨0, [UInt8.ofNat M0.mem]⟩ (UInt8.ofNat 3)) (by simp [ChV.push]) (by simp [ChV.push]) z ((H10.out.1.below hy).below hz))
  (by show 0 < 1; omega) (by rw [hMm]; rfl)
 have Hpe := Lib.hid (show ∀ y : World, Below w10.heap.size w10 y → Calls Tryz.prog 11 #[.pointer (some ⟨ps, 0, none⟩), .pointer R0.c, .agg #[.int .u8 (R0.M.all : Int), .int .u8 (R0.M.mem : Int), .int .u32 (R0.M.tab.a.seq.toNat : Int), .int .u8 (R0.M.tab.a.code : Int), .string R0.M.tab.a.text, .int .u32 (R0.M.tab.b.seq.toNat : Int), .int .u8 (R0.M.tab.b.code : Int), .string R0.M.tab.b.text, .int .u32 (R0.M.tab.c.seq.toNat : Int), .int .u8 (R0.M.tab.c.code : Int), .string R0.M.tab.c.text, .int .u32 (R0.M.tab.d.seq.toNat : Int), .int .u8 (R0.M.tab.d.code : Int), .string R0.M.tab.d.text, .pointer R0.P]] y fun e w' => e = .returned (.int .i64 2) ∧ Below y.heap.size y w' from hpe)
 have Hpz := Lib.hid (fun (y : World) (hy : Below w10.heap.size w10 y) => (show Calls Tryz.prog 11 #[.pointer (some ⟨ps, 0, none⟩), .pointer none, .agg #[.int .u8 (R0.M.all : Int), .int .u8 (R0.M.mem : Int), .int .u32 (R0.M.tab.a.seq.toNat : Int), .int .u8 (R0.M.tab.a.code : Int), .string R0.M.tab.a.text, .int .u32 (R0.M.tab.b.seq.toNat : Int), .int .u8 (R0.M.tab.b.code : Int), .string R0.M.tab.b.text, .int .u32 (R0.M.tab.c.seq.toNat : Int), .int .u8 (R0.M.tab.c.code : Int), .string R0.M.tab.c.text, .int .u32 (R0.M.tab.d.seq.toNat : Int), .int .u8 (R0.M.tab.d.code : Int), .string R0.M.tab.d.text, .pointer R0.P]] y fun e w' => e = .returned (.int .i64 2) ∧ Below y.heap.size y w' from
  put_low ps none bs0 R0.M R0.P 0 [] (by omega) (by simp) y (fun z hz => newest_empty ps ps _ z ((Hsh10.out.below hy).below hz)) (fun z _ => top_nil z) (fun z _ => tail_nil z) (Nat.le_refl _)))
 have Hwk := Lib.hid lwakes_any
 clear hs10 hr10 hsh10 hb10 hMm htl hpe Hpu f15 HR9 HS9 HB9
 have f15 : w10.cell? ⟨g, 15, none⟩ = some (.pointer R0.c) := cell_of_row _ _ _ _ _ _ (show w10.heap[g]? = some (.cells (rnCells R0).toArray _ (0, 0)) from Hr10.out)
 obtain ⟨k0, k1, k2, k3, k4, k5, k6, k7, k8, k9, k10, k11, k12, k13, k14⟩ := rn_cells15 Hr10.out
 go_wp2_with (first
  | ((with_reducible refine (Hpe.out _ (Below.refl _ _)).mono ?_); rintro e w11 ⟨rfl, h11⟩; have H11 := Lib.hid h11; obtain ⟨j0, j1, j2, j3, j4, j5, j6, j7, j8, j9, j10, j11, j12, j13, j14⟩ := rn_cells15 (Hr10.out.below h11); clear h11 k0 k1 k2 k3 k4 k5 k6 k7 k8 k9 k10 k11 k12 k13 k14)
  | ((with_reducible refine (Hpz.out _ H11.out).mono ?_); rintro e w12 ⟨rfl, h12⟩; have H12 := Lib.hid h12; clear h12)
  | ((with_reducible refine (Hwk.out _).mono ?_); rintro e w13 ⟨rfl, h13⟩; have H13 := Lib.hid h13; clear h13))
 go_ret
 refine ⟨rfl, ?_⟩
 have h1 := H11.out.trans (H12.out.mono H11.out.size)
 have h2 := h1.trans (H13.out.mono h1.size)
 exact Hb10.out.trans (h2.mono Hb10.out.size)
theorem learnNil_row (n0 : Int) {w : World} (f0 : (Lit.int .u64 n0).wf = true) (_W : World) :
  Calls Tryz.prog 3 #[.int .u64 n0] w fun e w' => e = .returned (.bool true) ∧ Below w.heap.size w w' := by
 obtain ⟨x0, rfl, _⟩ := lt_u64 f0
 exact learnNil_any x0 w
end Go.Proofs.YtbckjgageofldaaGreat
