/- Deltas: Patch, two of its regions. Condition: few enough keys. -/
import Derived.Test.YtkngadbeflepoaaZDeltaLeads38
import Derived.Test.YtkngadbeflepoaaZDeltaLeads39
import Derived.Test.YtkngadbeflepoaaZDeltaLeads32
namespace Go.Proofs.Ytkngadbeflepoaa
open Go.RowKit
theorem layTab (ρ : Operand → Value) (x : World) (o : Oper) (h : o.op = .alloc 65) : (execOp ρ o).run Try.prog x = .ok (.value (RegL.ptr x.heap.size)) (x.alloc (.cells (tabCells tabNone).toArray 65 (0, 0))) := by
  simp only [execOp, h]
  go_simp
  exact ⟨rfl, rfl⟩
theorem layPtr (ρ : Operand → Value) (x : World) (o : Oper) (h : o.op = .alloc 25) : (execOp ρ o).run Try.prog x = .ok (.value (RegL.ptr x.heap.size)) (x.alloc (.cells #[.pointer none] 25 (0, 0))) := by
  simp only [execOp, h]
  go_simp
  rfl
theorem tab_store {y : World} {g : Nat} {t0 : TabV} (hs : TabAt y g t0) {t : TabV} {V : Value} (hV : Value.agg (tabCells t).toArray = V) :
    V.cells.size = 12 ∧ (storeCells ⟨g, 0, none⟩ V.cells.toList).run Try.prog y = .ok () (rowSt y g 0 (tabCells t)) := by
  subst hV
  exact ⟨rfl, store_row (tabCells t) 0 _ y hs (Nat.le_refl _) (by simp [tabCells, lastCells, Value.oneCell'])⟩
theorem tab_loads (ρ : Operand → Value) (o : Oper) (a : Operand) (h : o.op = .load 65 a) {g : Nat} {t : TabV} (ha : ρ a = .pointer (some ⟨g, 0, none⟩)) {y : World} (hm : TabAt y g t) :
    (execOp ρ o).run Try.prog y = .ok (.value (.agg (tabCells t).toArray)) y := by
  simp only [execOp, h, ha]
  rw [tab_eta]
  obtain ⟨⟨a0, a1, a2⟩, ⟨b0, b1, b2⟩, ⟨c0, c1, c2⟩, ⟨d0, d1, d2⟩⟩ := hm.cells
  go_simp
structure PaEnd (w w' : World) (gt gk : Nat) (t : TabV) (P : Option Addr) : Prop where
  tab : TabAt w' gt t
  key : BoxAt w' gk (.pointer P) 25
  bel : Below w.heap.size w w'
  lt : w.heap.size ≤ gt ∧ w.heap.size ≤ gk ∧ gt ≠ gk
set_option maxRecDepth 100000 in
set_option maxHeartbeats 16000000 in
theorem pa_reg4 (w0 : World) (g : Nat) (A : MacV) (P : Option Addr) {Q : Exit → Act → World → Prop}
    (hQ : ∀ c a d v w, Q (.panic c) (Act.put a d v) w → Q (.panic c) a w) (hQ2 : ∀ c a d v w, Q (.panic c) a w → Q (.panic c) (Act.put a d v) w) (HM : Hid (MacAt w0 g A P))
    (u0 u1 u3 u4 u5 u6 u7 u8 u9 u10 u11 u12 u13 u14 u15 u16 u17 u18 u19 u20 u21 u22 u23 u24 u25 u26 u27 u28 u29 u30 u31 u32 u33 u34 u35 u36 u37 u38 u39 u40 u41 u42 u43 u44 u45 u46 u47 u48 u49 u50 u51 u52 u53 u54 u55 u56 u57 u58 u59 u60 u61 u62 u63 u64 u65 u66 u67 u68 u69 u70 u71 u72 u73 u74 u75 : Value)
    (Hk : Hid (∀ (s20 s21 s22 s23 : Value) (gt gk : Nat) (w2 : World), PaEnd w0 w2 gt gk A.tab P → Q .normal ⟨List.toArray (u0 :: u1 :: Value.pointer (some ⟨g, 0, none⟩) :: u3 :: u4 :: u5 :: u6 :: u7 :: u8 :: u9 :: Value.pointer (some ⟨gt, 0, none⟩) :: Value.pointer (some ⟨gk, 0, none⟩) :: u12 :: u13 :: u14 :: u15 :: u16 :: u17 :: u18 :: u19 :: s20 :: s21 :: s22 :: s23 :: u24 :: u25 :: u26 :: u27 :: u28 :: u29 :: u30 :: u31 :: u32 :: u33 :: u34 :: u35 :: u36 :: u37 :: u38 :: u39 :: u40 :: u41 :: u42 :: u43 :: u44 :: u45 :: u46 :: u47 :: u48 :: u49 :: u50 :: u51 :: u52 :: u53 :: u54 :: u55 :: u56 :: u57 :: u58 :: u59 :: u60 :: u61 :: u62 :: u63 :: u64 :: u65 :: u66 :: u67 :: u68 :: u69 :: u70 :: u71 :: u72 :: u73 :: u74 :: u75 :: []), []⟩ w2)) :
    Code.wp Try.prog (findR 4 (Try.f49.body.getD .skip)) Q ⟨List.toArray (u0 :: u1 :: Value.pointer (some ⟨g, 0, none⟩) :: u3 :: u4 :: u5 :: u6 :: u7 :: u8 :: u9 :: u10 :: u11 :: u12 :: u13 :: u14 :: u15 :: u16 :: u17 :: u18 :: u19 :: u20 :: u21 :: u22 :: u23 :: u24 :: u25 :: u26 :: u27 :: u28 :: u29 :: u30 :: u31 :: u32 :: u33 :: u34 :: u35 :: u36 :: u37 :: u38 :: u39 :: u40 :: u41 :: u42 :: u43 :: u44 :: u45 :: u46 :: u47 :: u48 :: u49 :: u50 :: u51 :: u52 :: u53 :: u54 :: u55 :: u56 :: u57 :: u58 :: u59 :: u60 :: u61 :: u62 :: u63 :: u64 :: u65 :: u66 :: u67 :: u68 :: u69 :: u70 :: u71 :: u72 :: u73 :: u74 :: u75 :: []), []⟩ w0 := by
  conv => arg 2; whnf
  refine (wpIn_wide (n := 1)).1 ?_
  refine RegL.wpIn_region_lays (F := Fence.wide) (KeptW w0) [⟨4, 10, .cells (tabCells tabNone).toArray 65 (0, 0)⟩, ⟨5, 11, .cells #[.pointer none] 25 (0, 0)⟩] [(0, 0), (2, 0), (1, 1), (3, 1), (6, 3), (7, 3)] (by kernel_rfl) (by kernel_rfl) (by kernel_rfl) (fun p hp => by simp only [List.mem_cons, List.not_mem_nil, or_false] at hp; rcases hp with rfl | rfl; exact lays_any layTab rfl; exact lays_any layPtr rfl)
    hQ hQ2 ⟨rfl, rfl, rfl, Nat.le_refl _, fun _ _ => rfl⟩ (keptW_mono w0) ?_
  clear hQ hQ2
  dsimp only [RegK.pick, List.getElem?_cons_zero, List.getElem?_cons_succ]
  obtain ⟨VA, hVA⟩ : ∃ V, macV A P = V := ⟨_, rfl⟩
  have HVA := Lib.hid hVA; clear hVA
  obtain ⟨VT, hVT⟩ : ∃ V, Value.agg (tabCells A.tab).toArray = V := ⟨_, rfl⟩
  have HVT := Lib.hid hVT; clear hVT
  refine RegL.reads ?_
  intro K hK
  rw [if_pos (by simp [Region.wanted])]
  refine ⟨VA, fun y hy => ?_, hK _ ?_⟩
  · rw [← HVA.out]
    exact mac_loads _ _ _ rfl rfl (HM.out.below (KeptW.bel hy))
  clear hK K
  go_simp
  refine RegL.reads ?_
  intro K hK
  rw [if_pos (by simp [Region.wanted])]
  refine ⟨VA, fun y hy => ?_, hK _ ?_⟩
  · rw [← HVA.out]
    exact mac_loads _ _ _ rfl rfl (HM.out.below (KeptW.bel hy))
  clear hK K
  go_simp
  refine RegL.adds (fun _ => trivial) ?_
  go_simp
  intro x1 hx1 K hK
  refine ⟨trivial, ?_⟩
  have hkx1 : KeptW w0 x1 := hx1
  have hd := mtable_any A P x1
  rw [HVA.out, HVT.out] at hd
  refine (callsIn_wide.2 hd).mono ?_
  clear hd
  rintro e xc1 ⟨rfl, hb1⟩
  have hxc1 : KeptW w0 xc1 := KeptW.mono hkx1 hb1
  refine hK (KeptW xc1) _ _ hb1 (fun y h => KeptW.mono hxc1 (KeptW.bel h)) (keptW_mono xc1) (Below.refl _ _) ?_
  clear hK K
  refine RegL.adds (fun _ => trivial) ?_
  go_simp
  intro x2 hx2 K hK
  refine ⟨trivial, ?_⟩
  have hkx2 : KeptW w0 x2 := KeptW.mono hxc1 (KeptW.bel hx2)
  have hd := mtree_any A P x2
  rw [HVA.out] at hd
  refine (callsIn_wide.2 hd).mono ?_
  clear hd
  rintro e xc2 ⟨rfl, hb2⟩
  have hxc2 : KeptW w0 xc2 := KeptW.mono hkx2 hb2
  refine hK (KeptW xc2) _ _ hb2 (fun y h => KeptW.mono (KeptW.bel hx2) (Below.trans hb2 ((KeptW.bel h).mono hb2.size))) (keptW_mono xc2) (Below.refl _ _) ?_
  clear hK K
  refine RegL.last ?_
  intro g' y hF hy
  have hyk : KeptW w0 y := KeptW.mono hxc2 (KeptW.bel hy)
  obtain ⟨hg1, hg2⟩ := hF.1 ⟨4, 10, .cells (tabCells tabNone).toArray 65 (0, 0)⟩ (by simp) rfl
  obtain ⟨hg3, hg4⟩ := hF.1 ⟨5, 11, .cells #[.pointer none] 25 (0, 0)⟩ (by simp) rfl
  have hne : g' 5 ≠ g' 4 := hF.2 ⟨5, 11, .cells #[.pointer none] 25 (0, 0)⟩ (by simp) ⟨4, 10, .cells (tabCells tabNone).toArray 65 (0, 0)⟩ (by simp) rfl rfl (by simp)
  have hs : TabAt y (g' 4) tabNone := hg1
  have hr : BoxAt y (g' 5) (.pointer none) 25 := hg3
  have hsl : w0.heap.size ≤ g' 4 := hg2
  have hrl : w0.heap.size ≤ g' 5 := hg4
  simp only [RegL.putS, RegL.ptr, if_true]
  clear hF hg1 hg2 hg3 hg4
  generalize g' 4 = gt at *
  generalize g' 5 = gk at *
  have hr2 : BoxAt (rowSt y gt 0 (tabCells A.tab)) gk (.pointer none) 25 := (rowSt_other hne _ _ _).trans hr
  have ht2 : TabAt (rowSt y gt 0 (tabCells A.tab)) gt A.tab := rowSt_row (tabCells A.tab) [] (tabCells tabNone) y hs rfl
  have hE := Lib.hid (show PaEnd w0 ((rowSt y gt 0 (tabCells A.tab)).setCell ⟨gk, 0, none⟩ (.pointer P)) gt gk A.tab P from
    ⟨(Below.heap_setCell _ _ _ _ (by exact (Ne.symm hne))).trans ht2, hr2.set, below_setV (rowSt_below hsl _ _ _ (KeptW.bel hyk)) hrl, hsl, hrl, Ne.symm hne⟩)
  obtain ⟨q0, q1⟩ := tab_store hs HVT.out
  simp only [Value.cells] at q0 q1
  have k0 := hr2.cell
  have k1 := hr2.frozen
  clear hs hr hr2 ht2
  generalize rowSt y gt 0 (tabCells A.tab) = wr at *
  refine RegK.can_frees (fun _ => trivial) ?_
  intro K K0 hK hK0
  go_simp
  refine hK (fun _ => True) _ _ trivial ?_
  clear hK K hK0 K0 q0 q1
  refine RegK.can_frees (fun _ => trivial) ?_
  intro K K0 hK hK0
  go_simp
  refine hK (fun _ => True) _ _ trivial ?_
  clear hK K hK0 K0
  refine RegK.can_nil ?_
  exact Hk.out _ _ _ _ gt gk _ hE.out
/-- What Make answers. -/
def mkM (B : MacV) : MacV := if makeOk B = true then B else macNone
def mkP (B : MacV) (P : Option Addr) : Option Addr := if makeOk B = true then P else none
def mkC (B : MacV) : Int := if makeOk B = true then 0 else 4
theorem mk_val (B : MacV) (P : Option Addr) : (if makeOk B = true then macV B P else macV macNone none) = macV (mkM B) (mkP B P) := by
  unfold mkM mkP
  split <;> rfl
set_option maxRecDepth 100000 in
set_option maxHeartbeats 16000000 in
theorem pa_reg18 (w0 : World) (g g9 gt gk : Nat) (A : MacV) (P : Option Addr) (m : Nat) (t : TabV) (S : Sh) (U : Tr) {Q : Exit → Act → World → Prop}
    (hQ : ∀ c a d v w, Q (.panic c) (Act.put a d v) w → Q (.panic c) a w) (hQ2 : ∀ c a d v w, Q (.panic c) a w → Q (.panic c) (Act.put a d v) w) (HM : Hid (MacAt w0 g A P)) (HB : Hid (BoxAt w0 g9 (.int .u8 (m : Int)) 61)) (HT : Hid (TabAt w0 gt t)) (HK : Hid (BoxAt w0 gk (.pointer U.ptr) 25)) (HU : Hid (TreeAt w0 U ∧ U.sh = S ∧ U.cnt ≤ 1000000)) (Hs : Hid (A.all < 256 ∧ m < 256))
    (u0 u1 u3 u4 u5 u6 u7 u8 u12 u13 u14 u15 u16 u17 u18 u19 u20 u21 u22 u23 u24 u25 u26 u27 u28 u29 u30 u31 u32 u33 u34 u35 u36 u37 u38 u39 u40 u41 u42 u43 u44 u45 u46 u47 u48 u49 u50 u51 u52 u53 u54 u55 u56 u57 u58 u59 u60 u61 u62 u63 u64 u65 u66 u67 u68 u69 u70 u71 u72 u73 u74 u75 : Value)
    (Hk : Hid (∀ (s56 s57 s58 s59 s60 s61 s62 s63 s64 : Value) (gb : Nat) (w2 : World), MacAt w2 gb (mkM ⟨A.all, m, t, S⟩) (mkP ⟨A.all, m, t, S⟩ U.ptr) ∧ Below w0.heap.size w0 w2 ∧ w0.heap.size ≤ gb → Q .normal ⟨List.toArray (u0 :: u1 :: Value.pointer (some ⟨g, 0, none⟩) :: u3 :: u4 :: u5 :: u6 :: u7 :: u8 :: Value.pointer (some ⟨g9, 0, none⟩) :: Value.pointer (some ⟨gt, 0, none⟩) :: Value.pointer (some ⟨gk, 0, none⟩) :: u12 :: u13 :: u14 :: u15 :: Value.pointer (some ⟨gb, 0, none⟩) :: Value.int .i64 (mkC ⟨A.all, m, t, S⟩) :: u18 :: u19 :: u20 :: u21 :: u22 :: u23 :: u24 :: u25 :: u26 :: u27 :: u28 :: u29 :: u30 :: u31 :: u32 :: u33 :: u34 :: u35 :: u36 :: u37 :: u38 :: u39 :: u40 :: u41 :: u42 :: u43 :: u44 :: u45 :: u46 :: u47 :: u48 :: u49 :: u50 :: u51 :: u52 :: u53 :: u54 :: u55 :: s56 :: s57 :: s58 :: s59 :: s60 :: s61 :: s62 :: s63 :: s64 :: u65 :: u66 :: u67 :: u68 :: u69 :: u70 :: u71 :: u72 :: u73 :: u74 :: u75 :: []), []⟩ w2)) :
    Code.wp Try.prog (findR 18 (Try.f49.body.getD .skip)) Q ⟨List.toArray (u0 :: u1 :: Value.pointer (some ⟨g, 0, none⟩) :: u3 :: u4 :: u5 :: u6 :: u7 :: u8 :: Value.pointer (some ⟨g9, 0, none⟩) :: Value.pointer (some ⟨gt, 0, none⟩) :: Value.pointer (some ⟨gk, 0, none⟩) :: u12 :: u13 :: u14 :: u15 :: u16 :: u17 :: u18 :: u19 :: u20 :: u21 :: u22 :: u23 :: u24 :: u25 :: u26 :: u27 :: u28 :: u29 :: u30 :: u31 :: u32 :: u33 :: u34 :: u35 :: u36 :: u37 :: u38 :: u39 :: u40 :: u41 :: u42 :: u43 :: u44 :: u45 :: u46 :: u47 :: u48 :: u49 :: u50 :: u51 :: u52 :: u53 :: u54 :: u55 :: u56 :: u57 :: u58 :: u59 :: u60 :: u61 :: u62 :: u63 :: u64 :: u65 :: u66 :: u67 :: u68 :: u69 :: u70 :: u71 :: u72 :: u73 :: u74 :: u75 :: []), []⟩ w0 := by
  conv => arg 2; whnf
  refine (wpIn_wide (n := 1)).1 ?_
  refine RegL.wpIn_region_lays (F := Fence.wide) (KeptW w0) [⟨9, 16, .cells (macCells macNone none).toArray 69 (0, 0)⟩] [(0, 0), (2, 0), (3, 0), (4, 0), (1, 1), (5, 1), (6, 2), (7, 2), (8, 2), (10, 3), (11, 3)] (by kernel_rfl) (by kernel_rfl) (by kernel_rfl) (fun p hp => by simp only [List.mem_cons, List.not_mem_nil, or_false] at hp; rcases hp with rfl; exact lays_any layMac rfl)
    hQ hQ2 ⟨rfl, rfl, rfl, Nat.le_refl _, fun _ _ => rfl⟩ (keptW_mono w0) ?_
  clear hQ hQ2
  dsimp only [RegK.pick, List.getElem?_cons_zero, List.getElem?_cons_succ]
  obtain ⟨VA, hVA⟩ : ∃ V, macV A P = V := ⟨_, rfl⟩
  have HVA := Lib.hid hVA; clear hVA
  obtain ⟨VT, hVT⟩ : ∃ V, Value.agg (tabCells t).toArray = V := ⟨_, rfl⟩
  have HVT := Lib.hid hVT; clear hVT
  have hmk := fun (y : World) (hy : TreeAt y U) => make_any ⟨A.all, m, t, S⟩ U y hy HU.out.2.1 HU.out.2.2 Hs.out.1 Hs.out.2
  obtain ⟨B, hB⟩ : ∃ B : MacV, (⟨A.all, m, t, S⟩ : MacV) = B := ⟨_, rfl⟩
  have hmk2 := fun (y : World) (hy : TreeAt y U) => (show Calls Try.prog 41 #[.int .u8 (A.all : Int), .int .u8 (m : Int), VT, .pointer U.ptr] y fun e w' => e = .returned (.tuple #[macV (mkM ⟨A.all, m, t, S⟩) (mkP ⟨A.all, m, t, S⟩ U.ptr), .int .i64 (mkC ⟨A.all, m, t, S⟩)]) ∧ TreeAt w' U ∧ Below y.heap.size y w' by
    rw [← HVT.out, ← mk_val]
    exact hmk y hy)
  clear hmk
  rw [hB] at hmk2 Hk
  clear hB
  obtain ⟨V1, hV1⟩ : ∃ V, macV (mkM B) (mkP B U.ptr) = V := ⟨_, rfl⟩
  rw [hV1] at hmk2
  have HV1 := Lib.hid hV1; clear hV1
  have Hmk := Lib.hid hmk2; clear hmk2
  obtain ⟨PU, hPU⟩ : ∃ P, U.ptr = P := ⟨_, rfl⟩
  rw [hPU] at HK Hmk HV1 Hk
  clear hPU
  refine RegL.reads ?_
  intro K hK
  rw [if_pos (by simp [Region.wanted])]
  refine ⟨VA, fun y hy => ?_, hK _ ?_⟩
  · rw [← HVA.out]
    exact mac_loads _ _ _ rfl rfl (HM.out.below (KeptW.bel hy))
  clear hK K
  go_simp
  refine RegL.reads ?_
  intro K hK
  go_simp
  refine ⟨.int .u8 (m : Int), fun y hy => ?_, hK _ ?_⟩
  · have k0 := (HB.out.below (KeptW.bel hy)).cell
    go_simp
  clear hK K
  refine RegL.reads ?_
  intro K hK
  rw [if_pos (by simp [Region.wanted])]
  refine ⟨VT, fun y hy => ?_, hK _ ?_⟩
  · rw [← HVT.out]
    exact tab_loads _ _ _ rfl rfl (HT.out.below' (KeptW.bel hy))
  clear hK K
  go_simp
  refine RegL.reads ?_
  intro K hK
  go_simp
  refine ⟨.pointer PU, fun y hy => ?_, hK _ ?_⟩
  · have k0 := (HK.out.below (KeptW.bel hy)).cell
    go_simp
  clear hK K
  refine RegL.adds (fun _ => trivial) ?_
  go_simp
  intro x1 hx1 K hK
  refine ⟨trivial, ?_⟩
  have hkx1 : KeptW w0 x1 := hx1
  have hd := mall_any A P x1
  rw [HVA.out] at hd
  refine (callsIn_wide.2 hd).mono ?_
  clear hd
  rintro e xc1 ⟨rfl, hb1⟩
  have hxc1 : KeptW w0 xc1 := KeptW.mono hkx1 hb1
  refine hK (KeptW xc1) _ _ hb1 (fun y h => KeptW.mono hxc1 (KeptW.bel h)) (keptW_mono xc1) (Below.refl _ _) ?_
  clear hK K
  refine RegL.adds (fun _ => trivial) ?_
  go_simp
  intro x2 hx2 K hK
  refine ⟨trivial, ?_⟩
  have hkx2 : KeptW w0 x2 := KeptW.mono hxc1 (KeptW.bel hx2)
  have hd := Hmk.out x2 (HU.out.1.below (KeptW.bel hkx2))
  refine (callsIn_wide.2 hd).mono ?_
  clear hd
  rintro e xc2 ⟨rfl, -, hb2⟩
  have hxc2 : KeptW w0 xc2 := KeptW.mono hkx2 hb2
  refine hK (KeptW xc2) _ _ hb2 (fun y h => KeptW.mono (KeptW.bel hx2) (Below.trans hb2 ((KeptW.bel h).mono hb2.size))) (keptW_mono xc2) (Below.refl _ _) ?_
  clear hK K
  iterate 3 (refine RegL.pures ?_; intro K hK; go_simp; (first | (refine ⟨_, fun _ => rfl, hK _ ?_⟩) | (refine hK _ ?_)); clear hK K)
  refine RegL.last ?_
  intro g' y hF hy
  have hyk : KeptW w0 y := KeptW.mono hxc2 (KeptW.bel hy)
  obtain ⟨hg1, hg2⟩ := hF.1 ⟨9, 16, .cells (macCells macNone none).toArray 69 (0, 0)⟩ (by simp) rfl
  have hs : MacAt y (g' 9) macNone none := hg1
  have hsl : w0.heap.size ≤ g' 9 := hg2
  simp only [RegL.putS, RegL.ptr, if_true]
  clear hF hg1 hg2
  generalize g' 9 = gb at *
  obtain ⟨s1, s2, s3, s4⟩ := ma_st hs (mkM B) (mkP B PU)
  have hE := Lib.hid (And.intro s1 (And.intro (s3 _ _ (KeptW.bel hyk) hsl) hsl))
  obtain ⟨q0, q1⟩ := mac_store hs HV1.out
  simp only [Value.cells] at q0 q1
  clear hs s1 s2 s3 s4
  generalize rowSt y gb 0 (macCells (mkM B) (mkP B PU)) = wr at *
  refine RegK.can_frees (fun _ => trivial) ?_
  intro K K0 hK hK0
  go_simp
  refine hK (fun _ => True) _ _ trivial ?_
  clear hK K hK0 K0 q0 q1
  refine RegK.can_frees (fun _ => trivial) ?_
  intro K K0 hK hK0
  go_simp
  refine hK (fun _ => True) _ _ trivial ?_
  clear hK K hK0 K0
  refine RegK.can_nil ?_
  exact Hk.out _ _ _ _ _ _ _ _ _ gb _ hE.out
end Go.Proofs.Ytkngadbeflepoaa
namespace Go.Proofs.Ytkngadbeflepoaa
open Go.RowKit
set_option maxRecDepth 100000 in
set_option maxHeartbeats 16000000 in
theorem pa_reg16 (w0 : World) (g q : Nat) (A : MacV) (P : Option Addr) (X : Tr) (n : Nat) {Q : Exit → Act → World → Prop}
    (hQ : ∀ c a d v w, Q (.panic c) (Act.put a d v) w → Q (.panic c) a w) (HM : Hid (MacAt w0 g A P)) (HB : Hid (BoxAt w0 q (.int .u64 (n : Int)) 108)) (HX : Hid (TreeAt w0 X ∧ X.ptr = P ∧ X.sh = A.sh)) (HA : Hid (MacBy A ∧ (macB A).length ≤ maxLen))
    (u0 u1 u3 u4 u5 u6 u8 u9 u10 u11 u12 u13 u14 u15 u16 u17 u18 u19 u20 u21 u22 u23 u24 u25 u26 u27 u28 u29 u30 u31 u32 u33 u34 u35 u36 u37 u38 u39 u40 u41 u42 u43 u44 u45 u46 u47 u48 u49 u50 u51 u52 u53 u54 u55 u56 u57 u58 u59 u60 u61 u62 u63 u64 u65 u66 u67 u68 u69 u70 u71 u72 u73 u74 u75 : Value)
    (Hk : Hid (∀ (s50 s51 s52 s53 : Value) (w2 : World), Below w0.heap.size w0 w2 → Q .normal ⟨List.toArray (u0 :: u1 :: Value.pointer (some ⟨g, 0, none⟩) :: u3 :: u4 :: u5 :: u6 :: Value.pointer (some ⟨q, 0, none⟩) :: u8 :: u9 :: u10 :: u11 :: u12 :: u13 :: u14 :: u15 :: u16 :: u17 :: u18 :: u19 :: u20 :: u21 :: u22 :: u23 :: u24 :: u25 :: u26 :: u27 :: u28 :: u29 :: u30 :: u31 :: u32 :: u33 :: u34 :: u35 :: u36 :: u37 :: u38 :: u39 :: u40 :: u41 :: u42 :: u43 :: u44 :: u45 :: u46 :: u47 :: u48 :: u49 :: s50 :: s51 :: s52 :: s53 :: Value.bool ((sumM A : Int) != (n : Int)) :: u55 :: u56 :: u57 :: u58 :: u59 :: u60 :: u61 :: u62 :: u63 :: u64 :: u65 :: u66 :: u67 :: u68 :: u69 :: u70 :: u71 :: u72 :: u73 :: u74 :: u75 :: []), []⟩ w2)) :
    Code.wp Try.prog (findR 16 (Try.f49.body.getD .skip)) Q ⟨List.toArray (u0 :: u1 :: Value.pointer (some ⟨g, 0, none⟩) :: u3 :: u4 :: u5 :: u6 :: Value.pointer (some ⟨q, 0, none⟩) :: u8 :: u9 :: u10 :: u11 :: u12 :: u13 :: u14 :: u15 :: u16 :: u17 :: u18 :: u19 :: u20 :: u21 :: u22 :: u23 :: u24 :: u25 :: u26 :: u27 :: u28 :: u29 :: u30 :: u31 :: u32 :: u33 :: u34 :: u35 :: u36 :: u37 :: u38 :: u39 :: u40 :: u41 :: u42 :: u43 :: u44 :: u45 :: u46 :: u47 :: u48 :: u49 :: u50 :: u51 :: u52 :: u53 :: u54 :: u55 :: u56 :: u57 :: u58 :: u59 :: u60 :: u61 :: u62 :: u63 :: u64 :: u65 :: u66 :: u67 :: u68 :: u69 :: u70 :: u71 :: u72 :: u73 :: u74 :: u75 :: []), []⟩ w0 := by
  conv => arg 2; whnf
  have hby := fun (y : World) (hy : TreeAt y X) => mbytes_any A X HA.out.1 y hy HX.out.2.2
  rw [HX.out.2.1] at hby
  obtain ⟨VA, hVA⟩ : ∃ V, macV A P = V := ⟨_, rfl⟩
  rw [hVA] at hby
  have HVA := Lib.hid hVA; clear hVA
  have hsum := fun y : World => sum_any ⟨(macB A).toArray⟩ (by simpa [ByteArray.size] using HA.out.2) y
  obtain ⟨SA, hSA⟩ : ∃ S : ByteArray, (⟨(macB A).toArray⟩ : ByteArray) = S := ⟨_, rfl⟩
  have hx : (Crc.sum 0#64 SA.data.toList).toNat = sumM A := by rw [← hSA]; rfl
  rw [hSA] at hby hsum
  clear hSA
  rw [hx] at hsum
  clear hx
  have Hby := Lib.hid hby; clear hby
  have Hsum := Lib.hid (fun y : World => (hsum y).mono fun e w' h => (show e = .returned (.int .u64 (sumM A : Int)) ∧ Below y.heap.size y w' from ⟨h.1, by rw [← h.2]; exact Below.refl _ _⟩)); clear hsum
  generalize sumM A = sa at *
  refine (wpIn_wide (n := 1)).1 ?_
  refine RegK.wpIn_region_can (F := Fence.wide) (KeptW w0) [(0, 0), (3, 0), (1, 1), (2, 1), (4, 0)] (by kernel_rfl) (by kernel_rfl) (by kernel_rfl) hQ ⟨rfl, rfl, rfl, Nat.le_refl _, fun _ _ => rfl⟩ ?_
  dsimp only [RegK.pick, List.getElem?_cons_zero, List.getElem?_cons_succ]
  change RegK.Can _ _ _ _ _ _ _ _ w0.drew
  have hkd : KeptW w0 w0.drew := ⟨rfl, rfl, rfl, Nat.le_refl _, fun _ _ => rfl⟩
  generalize w0.drew = z1 at *
  refine RegK.can_reads ?_
  intro K hK
  rw [if_pos (by simp [Region.wanted])]
  refine ⟨VA, fun y hy => ?_, hK _ ?_⟩
  · rw [← HVA.out]
    exact mac_loads _ _ _ rfl rfl (HM.out.below (KeptW.bel hy))
  clear hK K
  go_simp
  refine RegK.can_reads ?_
  intro K hK
  go_simp
  refine ⟨.int .u64 (n : Int), fun y hy => ?_, hK _ ?_⟩
  · have k0 := (HB.out.below (KeptW.bel hy)).cell
    go_simp
  clear hK K
  refine RegK.can_turns (fun _ => trivial) ?_
  intro K K0 hK hK0
  go_simp
  refine ⟨trivial, ?_⟩
  refine (callsIn_wide.2 (Hby.out z1 (HX.out.1.below (KeptW.bel hkd)))).mono ?_
  rintro e z2 ⟨rfl, hb7⟩
  have z2k : KeptW w0 z2 := KeptW.mono hkd hb7
  refine hK _ _ z2k ?_
  clear hK K hK0 K0
  refine RegK.can_turns (fun _ => trivial) ?_
  intro K K0 hK hK0
  go_simp
  refine ⟨trivial, ?_⟩
  refine (callsIn_wide.2 (Hsum.out z2)).mono ?_
  rintro e z3 ⟨rfl, hb7⟩
  have z3k : KeptW w0 z3 := KeptW.mono z2k hb7
  refine hK _ _ z3k ?_
  clear hK K hK0 K0
  refine RegK.can_reads ?_; intro K hK; go_simp; (first | refine ⟨_, fun _ _ => rfl, hK _ ?_⟩ | refine hK _ ?_); clear hK K
  refine RegK.can_nil ?_
  exact Hk.out _ _ _ _ _ (KeptW.bel z3k)
set_option maxRecDepth 100000 in
set_option maxHeartbeats 16000000 in
theorem pa_reg21 (w0 : World) (g q : Nat) (A : MacV) (P : Option Addr) (X : Tr) (n : Nat) {Q : Exit → Act → World → Prop}
    (hQ : ∀ c a d v w, Q (.panic c) (Act.put a d v) w → Q (.panic c) a w) (HM : Hid (MacAt w0 g A P)) (HB : Hid (BoxAt w0 q (.int .u64 (n : Int)) 108)) (HX : Hid (TreeAt w0 X ∧ X.ptr = P ∧ X.sh = A.sh)) (HA : Hid (MacBy A ∧ (macB A).length ≤ maxLen))
    (u0 u1 u2 u3 u4 u5 u6 u7 u9 u10 u11 u12 u13 u14 u15 u17 u18 u19 u20 u21 u22 u23 u24 u25 u26 u27 u28 u29 u30 u31 u32 u33 u34 u35 u36 u37 u38 u39 u40 u41 u42 u43 u44 u45 u46 u47 u48 u49 u50 u51 u52 u53 u54 u55 u56 u57 u58 u59 u60 u61 u62 u63 u64 u65 u66 u67 u68 u69 u70 u71 u72 u73 u74 u75 : Value)
    (Hk : Hid (∀ (s69 s70 s71 s72 : Value) (w2 : World), Below w0.heap.size w0 w2 → Q .normal ⟨List.toArray (u0 :: u1 :: u2 :: u3 :: u4 :: u5 :: u6 :: u7 :: Value.pointer (some ⟨q, 0, none⟩) :: u9 :: u10 :: u11 :: u12 :: u13 :: u14 :: u15 :: Value.pointer (some ⟨g, 0, none⟩) :: u17 :: u18 :: u19 :: u20 :: u21 :: u22 :: u23 :: u24 :: u25 :: u26 :: u27 :: u28 :: u29 :: u30 :: u31 :: u32 :: u33 :: u34 :: u35 :: u36 :: u37 :: u38 :: u39 :: u40 :: u41 :: u42 :: u43 :: u44 :: u45 :: u46 :: u47 :: u48 :: u49 :: u50 :: u51 :: u52 :: u53 :: u54 :: u55 :: u56 :: u57 :: u58 :: u59 :: u60 :: u61 :: u62 :: u63 :: u64 :: u65 :: u66 :: u67 :: u68 :: s69 :: s70 :: s71 :: s72 :: Value.bool ((sumM A : Int) != (n : Int)) :: u74 :: u75 :: []), []⟩ w2)) :
    Code.wp Try.prog (findR 21 (Try.f49.body.getD .skip)) Q ⟨List.toArray (u0 :: u1 :: u2 :: u3 :: u4 :: u5 :: u6 :: u7 :: Value.pointer (some ⟨q, 0, none⟩) :: u9 :: u10 :: u11 :: u12 :: u13 :: u14 :: u15 :: Value.pointer (some ⟨g, 0, none⟩) :: u17 :: u18 :: u19 :: u20 :: u21 :: u22 :: u23 :: u24 :: u25 :: u26 :: u27 :: u28 :: u29 :: u30 :: u31 :: u32 :: u33 :: u34 :: u35 :: u36 :: u37 :: u38 :: u39 :: u40 :: u41 :: u42 :: u43 :: u44 :: u45 :: u46 :: u47 :: u48 :: u49 :: u50 :: u51 :: u52 :: u53 :: u54 :: u55 :: u56 :: u57 :: u58 :: u59 :: u60 :: u61 :: u62 :: u63 :: u64 :: u65 :: u66 :: u67 :: u68 :: u69 :: u70 :: u71 :: u72 :: u73 :: u74 :: u75 :: []), []⟩ w0 := by
  conv => arg 2; whnf
  have hby := fun (y : World) (hy : TreeAt y X) => mbytes_any A X HA.out.1 y hy HX.out.2.2
  rw [HX.out.2.1] at hby
  obtain ⟨VA, hVA⟩ : ∃ V, macV A P = V := ⟨_, rfl⟩
  rw [hVA] at hby
  have HVA := Lib.hid hVA; clear hVA
  have hsum := fun y : World => sum_any ⟨(macB A).toArray⟩ (by simpa [ByteArray.size] using HA.out.2) y
  obtain ⟨SA, hSA⟩ : ∃ S : ByteArray, (⟨(macB A).toArray⟩ : ByteArray) = S := ⟨_, rfl⟩
  have hx : (Crc.sum 0#64 SA.data.toList).toNat = sumM A := by rw [← hSA]; rfl
  rw [hSA] at hby hsum
  clear hSA
  rw [hx] at hsum
  clear hx
  have Hby := Lib.hid hby; clear hby
  have Hsum := Lib.hid (fun y : World => (hsum y).mono fun e w' h => (show e = .returned (.int .u64 (sumM A : Int)) ∧ Below y.heap.size y w' from ⟨h.1, by rw [← h.2]; exact Below.refl _ _⟩)); clear hsum
  generalize sumM A = sa at *
  refine (wpIn_wide (n := 1)).1 ?_
  refine RegK.wpIn_region_can (F := Fence.wide) (KeptW w0) [(0, 0), (3, 0), (1, 1), (2, 1), (4, 0)] (by kernel_rfl) (by kernel_rfl) (by kernel_rfl) hQ ⟨rfl, rfl, rfl, Nat.le_refl _, fun _ _ => rfl⟩ ?_
  dsimp only [RegK.pick, List.getElem?_cons_zero, List.getElem?_cons_succ]
  change RegK.Can _ _ _ _ _ _ _ _ w0.drew
  have hkd : KeptW w0 w0.drew := ⟨rfl, rfl, rfl, Nat.le_refl _, fun _ _ => rfl⟩
  generalize w0.drew = z1 at *
  refine RegK.can_reads ?_
  intro K hK
  rw [if_pos (by simp [Region.wanted])]
  refine ⟨VA, fun y hy => ?_, hK _ ?_⟩
  · rw [← HVA.out]
    exact mac_loads _ _ _ rfl rfl (HM.out.below (KeptW.bel hy))
  clear hK K
  go_simp
  refine RegK.can_reads ?_
  intro K hK
  go_simp
  refine ⟨.int .u64 (n : Int), fun y hy => ?_, hK _ ?_⟩
  · have k0 := (HB.out.below (KeptW.bel hy)).cell
    go_simp
  clear hK K
  refine RegK.can_turns (fun _ => trivial) ?_
  intro K K0 hK hK0
  go_simp
  refine ⟨trivial, ?_⟩
  refine (callsIn_wide.2 (Hby.out z1 (HX.out.1.below (KeptW.bel hkd)))).mono ?_
  rintro e z2 ⟨rfl, hb7⟩
  have z2k : KeptW w0 z2 := KeptW.mono hkd hb7
  refine hK _ _ z2k ?_
  clear hK K hK0 K0
  refine RegK.can_turns (fun _ => trivial) ?_
  intro K K0 hK hK0
  go_simp
  refine ⟨trivial, ?_⟩
  refine (callsIn_wide.2 (Hsum.out z2)).mono ?_
  rintro e z3 ⟨rfl, hb7⟩
  have z3k : KeptW w0 z3 := KeptW.mono z2k hb7
  refine hK _ _ z3k ?_
  clear hK K hK0 K0
  refine RegK.can_reads ?_; intro K hK; go_simp; (first | refine ⟨_, fun _ _ => rfl, hK _ ?_⟩ | refine hK _ ?_); clear hK K
  refine RegK.can_nil ?_
  exact Hk.out _ _ _ _ _ (KeptW.bel z3k)
end Go.Proofs.Ytkngadbeflepoaa
