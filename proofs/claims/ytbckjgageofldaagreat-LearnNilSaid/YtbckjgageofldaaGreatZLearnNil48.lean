/- Chains: Put: refused. Condition: the chain lies there. -/
import Derived.Test.YtbckjgageofldaaGreatZLearnNil41
import Derived.Test.YtbckjgageofldaaGreatZLearnNil45
import Derived.Laws.CopyOwn
import Derived.OwnWalk
namespace Go.Proofs.YtbckjgageofldaaGreat
open Go.RowKit
theorem layBase (ρ : Operand → Value) (x : World) (o : Oper) (h : o.op = .alloc 110) : (execOp ρ o).run Tryz.prog x = .ok (.value (RegL.ptr x.heap.size)) (x.alloc (.cells (bsCells bs0).toArray 110 (0, 0))) := by
 simp only [execOp, h]
 go_simp
 exact ⟨rfl, rfl⟩
set_option maxHeartbeats 4000000 in
theorem put_nil (Cp : Option Addr) (M : MacV) (MP : Option Addr) (w : World) : Calls Tryz.prog 11 #[.pointer none, .pointer Cp, macV M MP] w fun e w' => e = .returned (.int .i64 1) ∧ Below w.heap.size w w' := by
 have hb1 := (Below.refl w.heap.size w).alloc (Nat.le_refl _) (.cells (macCells M MP).toArray 38)
 unfold macV
 rw [mac_eta] at hb1 ⊢
 have Hb1 := Lib.hid hb1; clear hb1
 go_enter Tryz.func11, Tryz.ntmps11
 go_wp2_with fail
 go_ret
 exact ⟨rfl, Hb1.out⟩
set_option maxRecDepth 100000 in
set_option maxHeartbeats 16000000 in
theorem put_low (p : Nat) (Cp : Option Addr) (b : BsV) (M : MacV) (MP : Option Addr) (top : Nat) (tl : List UInt8) (htop : top ≤ 4611686018427387904) (htl : tl.length ≤ 1000000) (w : World)
  (hN : ∀ y : World, Below w.heap.size w y → Calls Tryz.prog 39 #[.pointer (some ⟨p, 0, none⟩)] y fun e w' => e = .returned (bsV b) ∧ Below y.heap.size y w')
  (hT : ∀ y : World, Below w.heap.size w y → Calls Tryz.prog 22 #[.pointer Cp] y fun e w' => e = .returned (.int .u64 (top : Int)) ∧ Below y.heap.size y w')
  (hL : ∀ y : World, Below w.heap.size w y → Calls Tryz.prog 42 #[.pointer Cp] y fun e w' => e = .returned (.string ⟨tl.toArray⟩) ∧ Below y.heap.size y w') (hlo : top ≤ b.top) :
  Calls Tryz.prog 11 #[.pointer (some ⟨p, 0, none⟩), .pointer Cp, macV M MP] w fun e w' => e = .returned (.int .i64 2) ∧ Below w.heap.size w w' := by
 have hle : (top : Int) ≤ (b.top : Int) := by omega
 clear hlo
 have hb1 := (Below.refl w.heap.size w).alloc (Nat.le_refl _) (.cells (macCells M MP).toArray 38)
 have hm1 : MacAt (w.alloc (.cells (macCells M MP).toArray 38)) w.heap.size M MP := heap_alloc_new _ _
 have hM : ∀ y : World, Calls Tryz.prog 37 #[.agg #[.int .u8 (M.all : Int), .int .u8 (M.mem : Int), .int .u32 (M.tab.a.seq.toNat : Int), .int .u8 (M.tab.a.code : Int), .string M.tab.a.text, .int .u32 (M.tab.b.seq.toNat : Int), .int .u8 (M.tab.b.code : Int), .string M.tab.b.text, .int .u32 (M.tab.c.seq.toNat : Int), .int .u8 (M.tab.c.code : Int), .string M.tab.c.text, .int .u32 (M.tab.d.seq.toNat : Int), .int .u8 (M.tab.d.code : Int), .string M.tab.d.text, .pointer MP]] y fun e w' => e = .returned (.int .u8 (M.mem : Int)) ∧ Below y.heap.size y w' := fun y => mmem_any M MP y
 have HN := Lib.hid (show ∀ y : World, Below w.heap.size w y → Calls Tryz.prog 39 #[.pointer (some ⟨p, 0, none⟩)] y fun e w' => e = .returned (.agg #[.int .u8 (b.M.all : Int), .int .u8 (b.M.mem : Int), .int .u32 (b.M.tab.a.seq.toNat : Int), .int .u8 (b.M.tab.a.code : Int), .string b.M.tab.a.text, .int .u32 (b.M.tab.b.seq.toNat : Int), .int .u8 (b.M.tab.b.code : Int), .string b.M.tab.b.text, .int .u32 (b.M.tab.c.seq.toNat : Int), .int .u8 (b.M.tab.c.code : Int), .string b.M.tab.c.text, .int .u32 (b.M.tab.d.seq.toNat : Int), .int .u8 (b.M.tab.d.code : Int), .string b.M.tab.d.text, .pointer b.P, .int .u64 (b.top : Int), .string ⟨b.t.toArray⟩]) ∧ Below y.heap.size y w' from hN)
 have HT := Lib.hid hT
 have HL := Lib.hid hL
 have HM := Lib.hid hM
 have Htl := Lib.hid htl
 have hgt : ((4611686018427387904 : Int) < (top : Int)) = False := by rw [eq_iff_iff, iff_false]; omega
 clear hN hT hL hM htop htl
 unfold macV
 rw [mac_eta] at hb1 hm1 ⊢
 go_enter Tryz.func11, Tryz.ntmps11
 go_upto_region 3 with fail
 rw [← mac_eta] at hm1 hb1
 have Hm1 := Lib.hid hm1
 have Hb1 := Lib.hid hb1
 clear hm1 hb1
 simp only [← mac_eta]
 change Code.wp _ _ _ _ (w.alloc (.cells (macCells M MP).toArray 38))
 generalize w.alloc (.cells (macCells M MP).toArray 38) = w1 at *
 refine (wpIn_wide (n := 1)).1 ?_
 refine RegL.wpIn_region_lays (F := Fence.wide) (KeptW w1) [⟨6, 7, .cells (bsCells bs0).toArray 110 (0, 0)⟩] [(0, 0), (1, 0), (3, 0), (2, 1), (4, 1), (5, 2), (7, 3)] (by kernel_rfl) (by kernel_rfl) (by kernel_rfl) (fun p hp => by rw [List.mem_singleton] at hp; subst hp; exact lays_any layBase rfl) (fun _ _ d _ _ h => by cases d <;> exact h) (fun _ _ d _ _ h => by cases d <;> exact h) ⟨rfl, rfl, rfl, Nat.le_refl _, fun _ _ => rfl⟩ (keptW_mono w1) ?_
 dsimp only [RegK.pick, List.getElem?_cons_zero, List.getElem?_cons_succ]
 refine RegL.reads ?_
 intro K hK
 rw [if_pos (by simp [Region.wanted])]
 refine ⟨.agg #[.int .u8 (M.all : Int), .int .u8 (M.mem : Int), .int .u32 (M.tab.a.seq.toNat : Int), .int .u8 (M.tab.a.code : Int), .string M.tab.a.text, .int .u32 (M.tab.b.seq.toNat : Int), .int .u8 (M.tab.b.code : Int), .string M.tab.b.text, .int .u32 (M.tab.c.seq.toNat : Int), .int .u8 (M.tab.c.code : Int), .string M.tab.c.text, .int .u32 (M.tab.d.seq.toNat : Int), .int .u8 (M.tab.d.code : Int), .string M.tab.d.text, .pointer MP], fun y hy => exec_load rfl rfl (row_loadAt (P := Tryz.prog) (cs := macCells M MP) (Hm1.out.below (KeptW.bel hy)) Tryz.underlying38 rfl mac_size), hK _ ?_⟩
 clear hK K
 go_simp
 refine RegL.reads ?_
 intro K hK
 go_simp
 (first | refine ⟨_, fun _ _ => rfl, hK _ ?_⟩ | refine hK _ ?_)
 clear hK K
 refine RegL.reads ?_
 intro K hK
 go_simp
 (first | refine ⟨_, fun _ _ => rfl, hK _ ?_⟩ | refine hK _ ?_)
 clear hK K
 refine RegL.adds (fun _ => trivial) ?_
 go_simp
 intro xa1 hx K hK
 refine ⟨trivial, ?_⟩
 refine (callsIn_wide.2 (HT.out xa1 (Hb1.out.trans ((KeptW.bel hx).mono Hb1.out.size)))).mono ?_
 rintro e xc1 ⟨rfl, hb2⟩
 have hxxc1 : KeptW w1 xc1 := KeptW.mono hx hb2
 refine hK (KeptW xc1) _ _ hb2 (fun y h => KeptW.mono (KeptW.mono hx hb2) (KeptW.bel h)) (keptW_mono xc1) (Below.refl _ _) ?_
 clear hK K hb2 hx
 refine RegL.adds (fun _ => trivial) ?_
 go_simp
 intro xa2 hx K hK
 refine ⟨trivial, ?_⟩
 refine (callsIn_wide.2 (HL.out xa2 (Hb1.out.trans ((KeptW.bel hxxc1).mono Hb1.out.size) |>.trans ((KeptW.bel hx).mono (Nat.le_trans Hb1.out.size (KeptW.bel hxxc1).size))))).mono ?_
 rintro e xc2 ⟨rfl, hb2⟩
 have hxxc2 : KeptW w1 xc2 := KeptW.mono (KeptW.mono hxxc1 (KeptW.bel hx)) hb2
 refine hK (KeptW xc2) _ _ hb2 (fun y h => KeptW.mono (KeptW.mono hx hb2) (KeptW.bel h)) (keptW_mono xc2) (Below.refl _ _) ?_
 clear hK K hb2 hx
 refine RegL.pures ?_
 intro K hK
 go_simp
 (first | (refine ⟨_, fun _ => rfl, hK _ ?_⟩) | (refine hK _ ?_))
 clear hK K
 refine RegL.last ?_
 intro g' y hF hy
 have hyk : KeptW w1 y := KeptW.mono hxxc2 (KeptW.bel hy)
 obtain ⟨hlgb, hngb⟩ := hF.1 ⟨6, 7, .cells (bsCells bs0).toArray 110 (0, 0)⟩ (by simp) rfl
 simp only [RegL.putS, RegL.ptr, if_true]
 clear hF
 generalize g' 6 = gb at *
 refine RegK.can_frees (fun _ => trivial) ?_
 intro K K0 hK hK0
 rw [if_pos (by simp [Region.wanted])]
 refine RegK.op_wide rfl ?_
 refine wp_store_mid 110 _ _ rfl gb 0 (bsCells (⟨M, MP, top, tl⟩ : BsV)).toArray rfl rfl (there_row (cs := bsCells bs0) hlgb) base_size (all_oneCell_toArray (bs_one _)) ?_
 rw [show (y).setCells gb 0 (bsCells (⟨M, MP, top, tl⟩ : BsV)).toArray.toList = rowSt y gb 0 (bsCells (⟨M, MP, top, tl⟩ : BsV)) from st_eq _ _ _]
 refine hK (fun _ => True) _ _ trivial ?_
 clear hK K hK0 K0 
 have hz := bsSt_at hlgb (⟨M, MP, top, tl⟩ : BsV)
 have hbz := rowSt_below hngb (bsCells (⟨M, MP, top, tl⟩ : BsV)) 0 _ (KeptW.bel hyk)
 have hoz := fun (k : Nat) (hk : k < w1.heap.size) => ((rowSt_other (g := gb) (Nat.ne_of_lt (Nat.lt_of_lt_of_le hk hngb)) (bsCells (⟨M, MP, top, tl⟩ : BsV)) 0 y).trans ((KeptW.bel hyk).block k hk))
 generalize rowSt y gb 0 (bsCells (⟨M, MP, top, tl⟩ : BsV)) = w3 at *
 refine RegK.can_nil ?_
 have HZ := Lib.hid hz
 have Hbz := Lib.hid hbz
 have Hm3 := Lib.hid (show MacAt w3 w.heap.size M MP from (hoz _ Hm1.out.lt).trans Hm1.out)
 have Hb3 := Lib.hid (Hb1.out.trans (hbz.mono Hb1.out.size))
 have Hgb := Lib.hid (Nat.le_trans Hb1.out.size hngb)
 clear hz hbz hoz hlgb hngb Hm1 hyk hxxc1 hxxc2 hy HT HL
 go_upto_region 4 with fail
 refine (wpIn_wide (n := 1)).1 ?_
 refine RegJ.wpIn_region_plan (F := Fence.wide) (KeptW w3) (.step 0 0 (.step 1 0 (.step 2 0 (.step 3 0 (.step 4 0 (.step 5 0 (.step 6 0 (.step 7 1 (.step 8 0 (.step 9 0 (.step 10 0 (.step 11 0 (.step 12 0 (.step 13 0 (.step 14 0 (.step 15 1 (.step 16 1 (.step 17 0 (.step 18 0 .nil))))))))))))))))))) (by kernel_rfl) (by kernel_rfl) (by kernel_rfl) (fun _ _ d _ _ h => by cases d <;> exact h) ⟨rfl, rfl, rfl, Nat.le_refl _, fun _ _ => rfl⟩ ?_
 dsimp only [RegJ.pickJ, List.getElem?_cons_zero, List.getElem?_cons_succ]
 change RegJ.Can _ _ _ _ _ _ _ _ w3.drew
 have hkd : KeptW w3 w3.drew := ⟨rfl, rfl, rfl, Nat.le_refl _, fun _ _ => rfl⟩
 generalize w3.drew = v1 at *
 refine RegJ.reads ?_; intro K hK; go_simp; (first | refine ⟨_, fun _ _ => rfl, hK _ ?_⟩ | refine hK _ ?_); clear hK K
 refine RegJ.reads ?_
 intro K hK
 go_simp
 refine ⟨.int .u64 (top : Int), fun y hy => ?_, hK _ ?_⟩
 ·
  have f0 : y.cell? ⟨gb, 15, none⟩ = some (.int .u64 (top : Int)) := cell_of_row _ _ _ _ _ _ (HZ.out.below (KeptW.bel hy))
  go_simp
 clear hK K
 iterate 3 (refine RegJ.reads ?_; intro K hK; go_simp; (first | refine ⟨_, fun _ _ => rfl, hK _ ?_⟩ | refine hK _ ?_); clear hK K)
 refine RegJ.reads ?_
 intro K hK
 go_simp
 refine ⟨.int .u64 (top : Int), fun y hy => ?_, hK _ ?_⟩
 ·
  have f0 : y.cell? ⟨gb, 15, none⟩ = some (.int .u64 (top : Int)) := cell_of_row _ _ _ _ _ _ (HZ.out.below (KeptW.bel hy))
  go_simp
 clear hK K
 refine RegJ.reads ?_; intro K hK; go_simp; (first | refine ⟨_, fun _ _ => rfl, hK _ ?_⟩ | refine hK _ ?_); clear hK K
 refine RegJ.turns (fun _ => trivial) ?_
 intro K K0 hK hK0
 go_simp
 refine ⟨trivial, ?_⟩
 refine (callsIn_wide.2 (HN.out v1 (Hb3.out.trans ((KeptW.bel hkd).mono Hb3.out.size)))).mono ?_
 rintro e v2 ⟨rfl, hb7⟩
 have v2k : KeptW w3 v2 := KeptW.mono hkd hb7
 refine hK _ _ _ (fun _ h => h) v2k ?_
 clear hK K hK0 K0
 iterate 4 (refine RegJ.reads ?_; intro K hK; go_simp; (first | refine ⟨_, fun _ _ => rfl, hK _ ?_⟩ | refine hK _ ?_); clear hK K)
 (refine RegJ.reads ?_; intro K hK; go_simp; refine hK _ ?_; clear hK K)
 (refine RegJ.reads ?_; intro K hK; go_simp; refine hK _ ?_; clear hK K)
 (refine RegJ.reads ?_; intro K hK; go_simp; refine hK _ ?_; clear hK K)
 (refine RegJ.turns (fun _ => trivial) ?_; intro K K0 hK hK0; go_simp; refine hK0 _ ?_; clear hK K hK0 K0)
 (refine RegJ.turns (fun _ => trivial) ?_; intro K K0 hK hK0; go_simp; refine hK0 _ ?_; clear hK K hK0 K0)
 (refine RegJ.reads ?_; intro K hK; go_simp; refine hK _ ?_; clear hK K)
 refine RegJ.reads ?_; intro K hK; go_simp; (first | refine ⟨_, fun _ _ => rfl, hK _ ?_⟩ | refine hK _ ?_); clear hK K
 refine RegJ.nil ?_
 go_wp2_with fail
 go_ret
 exact ⟨rfl, Hb3.out.trans ((KeptW.bel v2k).mono Hb3.out.size)⟩
set_option maxRecDepth 100000 in
set_option maxHeartbeats 16000000 in
theorem put_ends (p : Nat) (Cp : Option Addr) (b : BsV) (M : MacV) (MP : Option Addr) (top : Nat) (tl : List UInt8) (htop : top ≤ 4611686018427387904) (htl : tl.length ≤ 1000000) (w : World)
  (hN : ∀ y : World, Below w.heap.size w y → Calls Tryz.prog 39 #[.pointer (some ⟨p, 0, none⟩)] y fun e w' => e = .returned (bsV b) ∧ Below y.heap.size y w')
  (hT : ∀ y : World, Below w.heap.size w y → Calls Tryz.prog 22 #[.pointer Cp] y fun e w' => e = .returned (.int .u64 (top : Int)) ∧ Below y.heap.size y w')
  (hL : ∀ y : World, Below w.heap.size w y → Calls Tryz.prog 42 #[.pointer Cp] y fun e w' => e = .returned (.string ⟨tl.toArray⟩) ∧ Below y.heap.size y w') (hlo : b.top < top) (hen : endsB tl M.mem = false) :
  Calls Tryz.prog 11 #[.pointer (some ⟨p, 0, none⟩), .pointer Cp, macV M MP] w fun e w' => e = .returned (.int .i64 2) ∧ Below w.heap.size w w' := by
 have hle : ¬ (top : Int) ≤ (b.top : Int) := by omega
 have he := fun y : World => ends_any tl htl M.mem y
 rw [hen] at he
 have He := Lib.hid he
 clear hlo he hen
 have hb1 := (Below.refl w.heap.size w).alloc (Nat.le_refl _) (.cells (macCells M MP).toArray 38)
 have hm1 : MacAt (w.alloc (.cells (macCells M MP).toArray 38)) w.heap.size M MP := heap_alloc_new _ _
 have hM : ∀ y : World, Calls Tryz.prog 37 #[.agg #[.int .u8 (M.all : Int), .int .u8 (M.mem : Int), .int .u32 (M.tab.a.seq.toNat : Int), .int .u8 (M.tab.a.code : Int), .string M.tab.a.text, .int .u32 (M.tab.b.seq.toNat : Int), .int .u8 (M.tab.b.code : Int), .string M.tab.b.text, .int .u32 (M.tab.c.seq.toNat : Int), .int .u8 (M.tab.c.code : Int), .string M.tab.c.text, .int .u32 (M.tab.d.seq.toNat : Int), .int .u8 (M.tab.d.code : Int), .string M.tab.d.text, .pointer MP]] y fun e w' => e = .returned (.int .u8 (M.mem : Int)) ∧ Below y.heap.size y w' := fun y => mmem_any M MP y
 have HN := Lib.hid (show ∀ y : World, Below w.heap.size w y → Calls Tryz.prog 39 #[.pointer (some ⟨p, 0, none⟩)] y fun e w' => e = .returned (.agg #[.int .u8 (b.M.all : Int), .int .u8 (b.M.mem : Int), .int .u32 (b.M.tab.a.seq.toNat : Int), .int .u8 (b.M.tab.a.code : Int), .string b.M.tab.a.text, .int .u32 (b.M.tab.b.seq.toNat : Int), .int .u8 (b.M.tab.b.code : Int), .string b.M.tab.b.text, .int .u32 (b.M.tab.c.seq.toNat : Int), .int .u8 (b.M.tab.c.code : Int), .string b.M.tab.c.text, .int .u32 (b.M.tab.d.seq.toNat : Int), .int .u8 (b.M.tab.d.code : Int), .string b.M.tab.d.text, .pointer b.P, .int .u64 (b.top : Int), .string ⟨b.t.toArray⟩]) ∧ Below y.heap.size y w' from hN)
 have HT := Lib.hid hT
 have HL := Lib.hid hL
 have HM := Lib.hid hM
 have Htl := Lib.hid htl
 have hgt : ((4611686018427387904 : Int) < (top : Int)) = False := by rw [eq_iff_iff, iff_false]; omega
 clear hN hT hL hM htop htl
 unfold macV
 rw [mac_eta] at hb1 hm1 ⊢
 go_enter Tryz.func11, Tryz.ntmps11
 go_upto_region 3 with fail
 rw [← mac_eta] at hm1 hb1
 have Hm1 := Lib.hid hm1
 have Hb1 := Lib.hid hb1
 clear hm1 hb1
 simp only [← mac_eta]
 change Code.wp _ _ _ _ (w.alloc (.cells (macCells M MP).toArray 38))
 generalize w.alloc (.cells (macCells M MP).toArray 38) = w1 at *
 refine (wpIn_wide (n := 1)).1 ?_
 refine RegL.wpIn_region_lays (F := Fence.wide) (KeptW w1) [⟨6, 7, .cells (bsCells bs0).toArray 110 (0, 0)⟩] [(0, 0), (1, 0), (3, 0), (2, 1), (4, 1), (5, 2), (7, 3)] (by kernel_rfl) (by kernel_rfl) (by kernel_rfl) (fun p hp => by rw [List.mem_singleton] at hp; subst hp; exact lays_any layBase rfl) (fun _ _ d _ _ h => by cases d <;> exact h) (fun _ _ d _ _ h => by cases d <;> exact h) ⟨rfl, rfl, rfl, Nat.le_refl _, fun _ _ => rfl⟩ (keptW_mono w1) ?_
 dsimp only [RegK.pick, List.getElem?_cons_zero, List.getElem?_cons_succ]
 refine RegL.reads ?_
 intro K hK
 rw [if_pos (by simp [Region.wanted])]
 refine ⟨.agg #[.int .u8 (M.all : Int), .int .u8 (M.mem : Int), .int .u32 (M.tab.a.seq.toNat : Int), .int .u8 (M.tab.a.code : Int), .string M.tab.a.text, .int .u32 (M.tab.b.seq.toNat : Int), .int .u8 (M.tab.b.code : Int), .string M.tab.b.text, .int .u32 (M.tab.c.seq.toNat : Int), .int .u8 (M.tab.c.code : Int), .string M.tab.c.text, .int .u32 (M.tab.d.seq.toNat : Int), .int .u8 (M.tab.d.code : Int), .string M.tab.d.text, .pointer MP], fun y hy => exec_load rfl rfl (row_loadAt (P := Tryz.prog) (cs := macCells M MP) (Hm1.out.below (KeptW.bel hy)) Tryz.underlying38 rfl mac_size), hK _ ?_⟩
 clear hK K
 go_simp
 refine RegL.reads ?_
 intro K hK
 go_simp
 (first | refine ⟨_, fun _ _ => rfl, hK _ ?_⟩ | refine hK _ ?_)
 clear hK K
 refine RegL.reads ?_
 intro K hK
 go_simp
 (first | refine ⟨_, fun _ _ => rfl, hK _ ?_⟩ | refine hK _ ?_)
 clear hK K
 refine RegL.adds (fun _ => trivial) ?_
 go_simp
 intro xa1 hx K hK
 refine ⟨trivial, ?_⟩
 refine (callsIn_wide.2 (HT.out xa1 (Hb1.out.trans ((KeptW.bel hx).mono Hb1.out.size)))).mono ?_
 rintro e xc1 ⟨rfl, hb2⟩
 have hxxc1 : KeptW w1 xc1 := KeptW.mono hx hb2
 refine hK (KeptW xc1) _ _ hb2 (fun y h => KeptW.mono (KeptW.mono hx hb2) (KeptW.bel h)) (keptW_mono xc1) (Below.refl _ _) ?_
 clear hK K hb2 hx
 refine RegL.adds (fun _ => trivial) ?_
 go_simp
 intro xa2 hx K hK
 refine ⟨trivial, ?_⟩
 refine (callsIn_wide.2 (HL.out xa2 (Hb1.out.trans ((KeptW.bel hxxc1).mono Hb1.out.size) |>.trans ((KeptW.bel hx).mono (Nat.le_trans Hb1.out.size (KeptW.bel hxxc1).size))))).mono ?_
 rintro e xc2 ⟨rfl, hb2⟩
 have hxxc2 : KeptW w1 xc2 := KeptW.mono (KeptW.mono hxxc1 (KeptW.bel hx)) hb2
 refine hK (KeptW xc2) _ _ hb2 (fun y h => KeptW.mono (KeptW.mono hx hb2) (KeptW.bel h)) (keptW_mono xc2) (Below.refl _ _) ?_
 clear hK K hb2 hx
 refine RegL.pures ?_
 intro K hK
 go_simp
 (first | (refine ⟨_, fun _ => rfl, hK _ ?_⟩) | (refine hK _ ?_))
 clear hK K
 refine RegL.last ?_
 intro g' y hF hy
 have hyk : KeptW w1 y := KeptW.mono hxxc2 (KeptW.bel hy)
 obtain ⟨hlgb, hngb⟩ := hF.1 ⟨6, 7, .cells (bsCells bs0).toArray 110 (0, 0)⟩ (by simp) rfl
 simp only [RegL.putS, RegL.ptr, if_true]
 clear hF
 generalize g' 6 = gb at *
 refine RegK.can_frees (fun _ => trivial) ?_
 intro K K0 hK hK0
 rw [if_pos (by simp [Region.wanted])]
 refine RegK.op_wide rfl ?_
 refine wp_store_mid 110 _ _ rfl gb 0 (bsCells (⟨M, MP, top, tl⟩ : BsV)).toArray rfl rfl (there_row (cs := bsCells bs0) hlgb) base_size (all_oneCell_toArray (bs_one _)) ?_
 rw [show (y).setCells gb 0 (bsCells (⟨M, MP, top, tl⟩ : BsV)).toArray.toList = rowSt y gb 0 (bsCells (⟨M, MP, top, tl⟩ : BsV)) from st_eq _ _ _]
 refine hK (fun _ => True) _ _ trivial ?_
 clear hK K hK0 K0 
 have hz := bsSt_at hlgb (⟨M, MP, top, tl⟩ : BsV)
 have hbz := rowSt_below hngb (bsCells (⟨M, MP, top, tl⟩ : BsV)) 0 _ (KeptW.bel hyk)
 have hoz := fun (k : Nat) (hk : k < w1.heap.size) => ((rowSt_other (g := gb) (Nat.ne_of_lt (Nat.lt_of_lt_of_le hk hngb)) (bsCells (⟨M, MP, top, tl⟩ : BsV)) 0 y).trans ((KeptW.bel hyk).block k hk))
 generalize rowSt y gb 0 (bsCells (⟨M, MP, top, tl⟩ : BsV)) = w3 at *
 refine RegK.can_nil ?_
 have HZ := Lib.hid hz
 have Hbz := Lib.hid hbz
 have Hm3 := Lib.hid (show MacAt w3 w.heap.size M MP from (hoz _ Hm1.out.lt).trans Hm1.out)
 have Hb3 := Lib.hid (Hb1.out.trans (hbz.mono Hb1.out.size))
 have Hgb := Lib.hid (Nat.le_trans Hb1.out.size hngb)
 clear hz hbz hoz hlgb hngb Hm1 hyk hxxc1 hxxc2 hy HT HL
 go_upto_region 4 with fail
 refine (wpIn_wide (n := 1)).1 ?_
 refine RegJ.wpIn_region_plan (F := Fence.wide) (KeptW w3) (.step 0 0 (.step 1 0 (.step 2 0 (.step 3 0 (.step 4 0 (.step 5 0 (.step 6 0 (.step 7 1 (.step 8 0 (.step 9 0 (.step 10 0 (.step 11 0 (.step 12 0 (.step 13 0 (.step 14 0 (.step 15 1 (.step 16 1 (.step 17 0 (.step 18 0 .nil))))))))))))))))))) (by kernel_rfl) (by kernel_rfl) (by kernel_rfl) (fun _ _ d _ _ h => by cases d <;> exact h) ⟨rfl, rfl, rfl, Nat.le_refl _, fun _ _ => rfl⟩ ?_
 dsimp only [RegJ.pickJ, List.getElem?_cons_zero, List.getElem?_cons_succ]
 change RegJ.Can _ _ _ _ _ _ _ _ w3.drew
 have hkd : KeptW w3 w3.drew := ⟨rfl, rfl, rfl, Nat.le_refl _, fun _ _ => rfl⟩
 generalize w3.drew = v1 at *
 refine RegJ.reads ?_; intro K hK; go_simp; (first | refine ⟨_, fun _ _ => rfl, hK _ ?_⟩ | refine hK _ ?_); clear hK K
 refine RegJ.reads ?_
 intro K hK
 go_simp
 refine ⟨.int .u64 (top : Int), fun y hy => ?_, hK _ ?_⟩
 ·
  have f0 : y.cell? ⟨gb, 15, none⟩ = some (.int .u64 (top : Int)) := cell_of_row _ _ _ _ _ _ (HZ.out.below (KeptW.bel hy))
  go_simp
 clear hK K
 iterate 3 (refine RegJ.reads ?_; intro K hK; go_simp; (first | refine ⟨_, fun _ _ => rfl, hK _ ?_⟩ | refine hK _ ?_); clear hK K)
 refine RegJ.reads ?_
 intro K hK
 go_simp
 refine ⟨.int .u64 (top : Int), fun y hy => ?_, hK _ ?_⟩
 ·
  have f0 : y.cell? ⟨gb, 15, none⟩ = some (.int .u64 (top : Int)) := cell_of_row _ _ _ _ _ _ (HZ.out.below (KeptW.bel hy))
  go_simp
 clear hK K
 refine RegJ.reads ?_; intro K hK; go_simp; (first | refine ⟨_, fun _ _ => rfl, hK _ ?_⟩ | refine hK _ ?_); clear hK K
 refine RegJ.turns (fun _ => trivial) ?_
 intro K K0 hK hK0
 go_simp
 refine ⟨trivial, ?_⟩
 refine (callsIn_wide.2 (HN.out v1 (Hb3.out.trans ((KeptW.bel hkd).mono Hb3.out.size)))).mono ?_
 rintro e v2 ⟨rfl, hb7⟩
 have v2k : KeptW w3 v2 := KeptW.mono hkd hb7
 refine hK _ _ _ (fun _ h => h) v2k ?_
 clear hK K hK0 K0
 iterate 5 (refine RegJ.reads ?_; intro K hK; go_simp; (first | refine ⟨_, fun _ _ => rfl, hK _ ?_⟩ | refine hK _ ?_); clear hK K)
 refine RegJ.reads ?_
 intro K hK
 go_simp
 refine ⟨.string ⟨tl.toArray⟩, fun y hy => ?_, hK _ ?_⟩
 ·
  have f0 : y.cell? ⟨gb, 16, none⟩ = some (.string ⟨tl.toArray⟩) := cell_of_row _ _ _ _ _ _ (HZ.out.below (KeptW.bel hy))
  go_simp
 clear hK K
 refine RegJ.reads ?_
 intro K hK
 rw [if_pos (by first | (simp [Region.wanted]; done) | (go_simp; done))]
 refine ⟨.agg #[.int .u8 (M.all : Int), .int .u8 (M.mem : Int), .int .u32 (M.tab.a.seq.toNat : Int), .int .u8 (M.tab.a.code : Int), .string M.tab.a.text, .int .u32 (M.tab.b.seq.toNat : Int), .int .u8 (M.tab.b.code : Int), .string M.tab.b.text, .int .u32 (M.tab.c.seq.toNat : Int), .int .u8 (M.tab.c.code : Int), .string M.tab.c.text, .int .u32 (M.tab.d.seq.toNat : Int), .int .u8 (M.tab.d.code : Int), .string M.tab.d.text, .pointer MP], fun y hy => exec_load rfl rfl (row_loadAt (P := Tryz.prog) (cs := macCells M MP) (Hm3.out.below (KeptW.bel hy)) Tryz.underlying38 rfl mac_size), hK _ ?_⟩
 clear hK K
 go_simp
 refine RegJ.turns (fun _ => trivial) ?_
 intro K K0 hK hK0
 go_simp
 refine ⟨trivial, ?_⟩
 refine (callsIn_wide.2 (HM.out v2)).mono ?_
 rintro e v3 ⟨rfl, hb7⟩
 have v3k : KeptW w3 v3 := KeptW.mono v2k hb7
 refine hK _ _ _ (fun _ h => h) v3k ?_
 clear hK K hK0 K0
 refine RegJ.turns (fun _ => trivial) ?_
 intro K K0 hK hK0
 go_simp
 refine ⟨trivial, ?_⟩
 refine (callsIn_wide.2 ((show Calls Tryz.prog 43 #[.string ⟨tl.toArray⟩, .int .u8 (M.mem : Int)] v3 (fun e w' => e = .returned (.bool false) ∧ Below (v3).heap.size v3 w') from (He.out v3).mono (fun e w' h => ⟨h.1, by rw [h.2]; exact Below.refl _ _⟩)))).mono ?_
 rintro e v4 ⟨rfl, hb7⟩
 have v4k : KeptW w3 v4 := KeptW.mono v3k hb7
 refine hK _ _ _ (fun _ h => h) v4k ?_
 clear hK K hK0 K0
 iterate 2 (refine RegJ.reads ?_; intro K hK; go_simp; (first | refine ⟨_, fun _ _ => rfl, hK _ ?_⟩ | refine hK _ ?_); clear hK K)
 refine RegJ.nil ?_
 go_wp2_with fail
 go_ret
 exact ⟨rfl, Hb3.out.trans ((KeptW.bel v4k).mono Hb3.out.size)⟩
end Go.Proofs.YtbckjgageofldaaGreat
namespace Go.Proofs.YtbckjgageofldaaGreat
open Go.RowKit
theorem run_copy_rowk {P : Program} (w : World) (dT sT ty elem : TypeId) (k g o dLen dCap : Nat) (a : Addr) (sLen sCap : Nat) (cur : Array Value) (t : TypeId) (cs : List Value)
  (hu : P.underlying dT = some (.slice elem)) (hs : (P.info? elem).map (·.size) = some k)
  (hg : w.heap[g]? = some (.cells cur t (0, 0))) (hn : cs.length = Nat.min sLen dLen * k)
  (hsrc : ∀ j v, cs[j]? = some v → w.cell? (a.add j) = some v) (hfit : o + cs.length ≤ cur.size) (h1 : ∀ v ∈ cs, v.oneCell' = true) :
  (Builtin.copy_ #[dT, sT] ty #[.slice (some ⟨g, o, none⟩) dLen dCap, .slice (some a) sLen sCap]).run P w =
   .ok (goInt (Nat.min sLen dLen)) (w.setRow g (cur.toList.take o ++ cs ++ cur.toList.drop (o + cs.length)).toArray) := by
 have hl := run_loadCells_list (P := P) w a cs hsrc
 have hst := run_storeCells_at P g o t cs 0 cur w hg (by simpa using hfit) h1
 cases hq : P.info? elem with
 | none => simp [hq] at hs
 | some i =>
  have hi : i.size = k := by simpa [hq] using hs
  simp [Builtin.copy_, run_underlying hu, Builtin.lenOf, Builtin.firstCells, sizeOf, typeInfo, hq, hi, ← hn, hl, hst]
end Go.Proofs.YtbckjgageofldaaGreat
