/- MachineMakes, a piece: what was read back is compared. No condition. -/
import Derived.Test.YtkngadbeflepoaaMMachineMakes1
import Derived.Test.YtkngadbeflepoaaMMachineBack44
import Derived.Test.YtkngadbeflepoaaMMachineBack41
import Derived.Test.YtkngadbeflepoaaMMachineBack13
import Derived.Test.YtkngadbeflepoaaMMachineBack16
import Derived.OpenShut
namespace Go.Proofs.Ytkngadbeflepoaa
open Go.RowKit

set_option maxRecDepth 100000 in
set_option maxHeartbeats 16000000 in
theorem mm_reg24 (w0 : World) (gt gs gx : Nat) (M : MacV) (P : Option Addr) (X Z : Tr) {Q : Exit → Act → World → Prop}
    (HI : Hid (TabAt w0 gt M.tab ∧ MacAt w0 gs M P ∧ MacAt w0 gx M Z.ptr ∧ TreeAt w0 X ∧ TreeAt w0 Z)) (HX : Hid (X.ptr = P ∧ X.sh = M.sh ∧ Z.sh = M.sh)) (HA : Hid (MacAll M))
    (u2 u3 u4 u5 u7 u8 u10 u12 u13 u14 u15 u16 u17 u20 u21 u22 u23 u24 u25 u26 u27 u28 u29 u30 u31 u32 u33 u34 u35 u36 u37 u38 u39 u40 u41 u42 u43 u44 u45 u46 u47 u48 u49 u50 u51 u52 u53 u54 u55 u56 u57 u58 u59 u60 u61 u62 u63 u64 u65 u66 u67 u68 u69 u70 u71 u72 u73 u74 u75 u76 u77 u78 u79 u80 u81 u82 u83 u84 u85 u86 u87 u88 u89 u90 u91 u92 u93 u94 u95 u96 u97 u98 u99 u100 u101 u102 u103 u104 u105 u106 u107 u108 u109 u110 u111 u112 u113 u114 u115 u116 u117 u118 u119 u120 u121 u122 u123 u124 u125 u126 u127 u128 u129 u130 u131 u132 u133 u134 u135 u136 u137 u138 u139 u140 u141 u142 u143 u144 u145 u146 u147 u148 u149 u150 u151 u152 u153 u154 u155 u156 u157 u158 u159 u160 u161 u162 u163 u164 u165 u166 u167 u168 u169 u170 u171 u172 u173 u174 u175 u176 u177 u178 : Value)
    (Hk : Hid (∀ (s145 s146 s147 s148 s149 s150 s151 s152 s153 s154 s155 s156 s157 s158 s159 s160 s161 s162 s163 s164 s165 s166 s167 s168 s169 s170 s171 s172 s173 s174 s175 s176 s177 s178 : Value) (w2 : World), Below w0.heap.size w0 w2 → Q .normal ⟨List.toArray (Value.int .u8 (M.all : Int) :: Value.int .u8 (M.mem : Int) :: u2 :: u3 :: u4 :: u5 :: Value.pointer (some ⟨gt, 0, none⟩) :: u7 :: Value.bool true :: Value.pointer P :: u10 :: Value.pointer (some ⟨gs, 0, none⟩) :: u12 :: u13 :: u14 :: u15 :: u16 :: u17 :: Value.pointer (some ⟨gx, 0, none⟩) :: Value.int .i64 0 :: u20 :: u21 :: u22 :: u23 :: u24 :: u25 :: u26 :: u27 :: u28 :: u29 :: u30 :: u31 :: u32 :: u33 :: u34 :: u35 :: u36 :: u37 :: u38 :: u39 :: u40 :: u41 :: u42 :: u43 :: u44 :: u45 :: u46 :: u47 :: u48 :: u49 :: u50 :: u51 :: u52 :: u53 :: u54 :: u55 :: u56 :: u57 :: u58 :: u59 :: u60 :: u61 :: u62 :: u63 :: u64 :: u65 :: u66 :: u67 :: u68 :: u69 :: u70 :: u71 :: u72 :: u73 :: u74 :: u75 :: u76 :: u77 :: u78 :: u79 :: u80 :: u81 :: u82 :: u83 :: u84 :: u85 :: u86 :: u87 :: u88 :: u89 :: u90 :: u91 :: u92 :: u93 :: u94 :: u95 :: u96 :: u97 :: u98 :: u99 :: u100 :: u101 :: u102 :: u103 :: u104 :: u105 :: u106 :: u107 :: u108 :: u109 :: u110 :: u111 :: u112 :: u113 :: u114 :: u115 :: u116 :: u117 :: u118 :: u119 :: u120 :: u121 :: u122 :: u123 :: u124 :: u125 :: u126 :: u127 :: u128 :: u129 :: u130 :: u131 :: u132 :: u133 :: u134 :: u135 :: u136 :: u137 :: u138 :: u139 :: u140 :: u141 :: u142 :: u143 :: u144 :: s145 :: s146 :: s147 :: s148 :: s149 :: s150 :: s151 :: s152 :: s153 :: s154 :: s155 :: s156 :: s157 :: s158 :: s159 :: s160 :: s161 :: s162 :: s163 :: s164 :: s165 :: s166 :: s167 :: s168 :: s169 :: s170 :: s171 :: s172 :: s173 :: s174 :: s175 :: s176 :: s177 :: s178 :: []), []⟩ w2)) :
    Code.wp Try.prog (findR 24 (Try.f8.body.getD .skip)) Q ⟨List.toArray (Value.int .u8 (M.all : Int) :: Value.int .u8 (M.mem : Int) :: u2 :: u3 :: u4 :: u5 :: Value.pointer (some ⟨gt, 0, none⟩) :: u7 :: u8 :: Value.pointer P :: u10 :: Value.pointer (some ⟨gs, 0, none⟩) :: u12 :: u13 :: u14 :: u15 :: u16 :: u17 :: Value.pointer (some ⟨gx, 0, none⟩) :: Value.int .i64 0 :: u20 :: u21 :: u22 :: u23 :: u24 :: u25 :: u26 :: u27 :: u28 :: u29 :: u30 :: u31 :: u32 :: u33 :: u34 :: u35 :: u36 :: u37 :: u38 :: u39 :: u40 :: u41 :: u42 :: u43 :: u44 :: u45 :: u46 :: u47 :: u48 :: u49 :: u50 :: u51 :: u52 :: u53 :: u54 :: u55 :: u56 :: u57 :: u58 :: u59 :: u60 :: u61 :: u62 :: u63 :: u64 :: u65 :: u66 :: u67 :: u68 :: u69 :: u70 :: u71 :: u72 :: u73 :: u74 :: u75 :: u76 :: u77 :: u78 :: u79 :: u80 :: u81 :: u82 :: u83 :: u84 :: u85 :: u86 :: u87 :: u88 :: u89 :: u90 :: u91 :: u92 :: u93 :: u94 :: u95 :: u96 :: u97 :: u98 :: u99 :: u100 :: u101 :: u102 :: u103 :: u104 :: u105 :: u106 :: u107 :: u108 :: u109 :: u110 :: u111 :: u112 :: u113 :: u114 :: u115 :: u116 :: u117 :: u118 :: u119 :: u120 :: u121 :: u122 :: u123 :: u124 :: u125 :: u126 :: u127 :: u128 :: u129 :: u130 :: u131 :: u132 :: u133 :: u134 :: u135 :: u136 :: u137 :: u138 :: u139 :: u140 :: u141 :: u142 :: u143 :: u144 :: u145 :: u146 :: u147 :: u148 :: u149 :: u150 :: u151 :: u152 :: u153 :: u154 :: u155 :: u156 :: u157 :: u158 :: u159 :: u160 :: u161 :: u162 :: u163 :: u164 :: u165 :: u166 :: u167 :: u168 :: u169 :: u170 :: u171 :: u172 :: u173 :: u174 :: u175 :: u176 :: u177 :: u178 :: []), []⟩ w0 := by
  conv => arg 2; whnf
  have Hloc := Lib.hid (fun (y : World) (hy : KeptW w0 y) => (show TabAt y gt M.tab ∧ MacAt y gs M P ∧ MacAt y gx M Z.ptr ∧ TreeAt y X ∧ TreeAt y Z from
    ⟨HI.out.1.below' (KeptW.bel hy), HI.out.2.1.below (KeptW.bel hy), HI.out.2.2.1.below (KeptW.bel hy), HI.out.2.2.2.1.below (KeptW.bel hy), HI.out.2.2.2.2.below (KeptW.bel hy)⟩))
  have hcA : M.sh.cnt ≤ 1000000 := by have := HA.out.fit.kv.num; omega
  obtain ⟨VA, hVA⟩ : ∃ V, macV M P = V := ⟨_, rfl⟩
  obtain ⟨VX, hVX⟩ : ∃ V, macV M Z.ptr = V := ⟨_, rfl⟩
  have HS1 := Lib.hid (fun (y : World) (hy : KeptW w0 y) => (show Calls Try.prog 33 #[VX, VA] y fun e w' => e = .returned (.bool true) ∧ Below y.heap.size y w' by
    have h := Hloc.out y hy
    have k := same2_any M M Z X y h.2.2.2.2 h.2.2.2.1 HX.out.2.2 HX.out.2.1 (by rw [HX.out.2.2]; exact HA.out.fit.kv.asc) (by rw [HX.out.2.1]; exact HA.out.fit.kv.asc) (by rw [sh_cnt, HX.out.2.2]; exact hcA) (by rw [sh_cnt, HX.out.2.1]; exact hcA)
    rw [(macSame_iff HA.out.heap HA.out.heap).2 rfl, HX.out.1] at k
    rw [← hVX, ← hVA]
    exact k))
  have HC1 := Lib.hid (fun (y : World) => (show Calls Try.prog 43 #[VA] y fun e w' => e = .returned (.int .u8 (M.all : Int)) ∧ Below y.heap.size y w' by rw [← hVA]; exact mall_any M P y))
  have HC2 := Lib.hid (fun (y : World) => (show Calls Try.prog 44 #[VA] y fun e w' => e = .returned (.int .u8 (M.mem : Int)) ∧ Below y.heap.size y w' by rw [← hVA]; exact mmem_any M P y))
  have HC3 := Lib.hid (fun (y : World) => (show Calls Try.prog 45 #[VA] y fun e w' => e = .returned (.agg (tabCells M.tab).toArray) ∧ Below y.heap.size y w' by rw [← hVA]; exact mtable_any M P y))
  have HC4 := Lib.hid (fun (y : World) => (show Calls Try.prog 46 #[VA] y fun e w' => e = .returned (.pointer P) ∧ Below y.heap.size y w' by rw [← hVA]; exact mtree_any M P y))
  have HPP := Lib.hid (fun (y : World) => (show (binOp .eql 25 (.pointer P) (.pointer P)).run Try.prog y = .ok (.bool true) y by rw [← HX.out.1]; exact tr_same rfl))
  have HVA := Lib.hid hVA; clear hVA
  have HVX := Lib.hid hVX; clear hVX
  clear hcA
  refine (wpIn_wide (n := 1)).1 ?_
  refine RegJ.wpIn_region_calm (F := Fence.wide) (KeptW w0) (.step 0 0 (.step 1 0 (.step 2 0 (.step 3 0 (.step 4 0 (.step 5 1 (.step 6 0 (.step 7 0 (.step 8 0 (.step 10 0 (.step 9 1 (.step 11 0 (.step 12 0 (.step 13 0 (.step 14 0 (.step 16 0 (.step 15 1 (.step 17 0 (.step 18 0 (.step 19 0 (.step 20 0 (.step 22 0 (.step 21 1 (.step 23 0 (.step 24 0 (.step 25 0 (.step 26 0 (.step 28 0 (.step 27 1 (.step 29 0 (.step 30 0 (.step 31 0 (.step 32 1 (.step 33 0 (.step 34 0 .nil))))))))))))))))))))))))))))))))))) (by kernel_rfl) (by kernel_rfl) (by kernel_rfl) ⟨rfl, rfl, rfl, Nat.le_refl _, fun _ _ => rfl⟩ ?_
  dsimp only [RegJ.pickJ, List.getElem?_cons_zero, List.getElem?_cons_succ]
  change RegJ.Can _ _ _ _ _ _ _ _ w0.drew
  have hkd : KeptW w0 w0.drew := ⟨rfl, rfl, rfl, Nat.le_refl _, fun _ _ => rfl⟩
  generalize w0.drew = v1 at *
  iterate 3 (refine RegJ.reads ?_; intro K hK; go_simp; (first | refine ⟨_, fun _ _ => rfl, hK _ ?_⟩ | refine hK _ ?_); clear hK K)
  refine RegJ.reads ?_
  intro K hK
  go_simp
  refine ⟨VX, fun y hy => ?_, hK _ ?_⟩
  · rw [← HVX.out]
    unfold macV
    rw [mac_eta M Z.ptr]
    obtain ⟨⟨m0, m1, m14⟩, ⟨m2, m3, m4⟩, ⟨m5, m6, m7⟩, ⟨m8, m9, m10⟩, ⟨m11, m12, m13⟩⟩ := (Hloc.out y hy).2.2.1.cells
    go_simp
  clear hK K
  refine RegJ.reads ?_
  intro K hK
  go_simp
  refine ⟨VA, fun y hy => ?_, hK _ ?_⟩
  · rw [← HVA.out]
    unfold macV
    rw [mac_eta M P]
    obtain ⟨⟨m0, m1, m14⟩, ⟨m2, m3, m4⟩, ⟨m5, m6, m7⟩, ⟨m8, m9, m10⟩, ⟨m11, m12, m13⟩⟩ := (Hloc.out y hy).2.1.cells
    go_simp
  clear hK K
  refine RegJ.turns (fun _ => trivial) ?_
  intro K K0 hK hK0
  go_simp
  refine ⟨trivial, ?_⟩
  refine (callsIn_wide.2 (HS1.out v1 (hkd))).mono ?_
  rintro e v2 ⟨rfl, hb7⟩
  have v2k : KeptW w0 v2 := KeptW.mono hkd hb7
  refine hK _ _ _ (fun _ h => h) v2k ?_
  clear hK K hK0 K0
  iterate 2 (refine RegJ.reads ?_; intro K hK; go_simp; (first | refine ⟨_, fun _ _ => rfl, hK _ ?_⟩ | refine hK _ ?_); clear hK K)
  refine RegJ.reads ?_
  intro K hK
  go_simp
  refine ⟨VA, fun y hy => ?_, hK _ ?_⟩
  · rw [← HVA.out]
    unfold macV
    rw [mac_eta M P]
    obtain ⟨⟨m0, m1, m14⟩, ⟨m2, m3, m4⟩, ⟨m5, m6, m7⟩, ⟨m8, m9, m10⟩, ⟨m11, m12, m13⟩⟩ := (Hloc.out y hy).2.1.cells
    go_simp
  clear hK K
  refine RegJ.reads ?_; intro K hK; go_simp; (first | refine ⟨_, fun _ _ => rfl, hK _ ?_⟩ | refine hK _ ?_); clear hK K
  refine RegJ.turns (fun _ => trivial) ?_
  intro K K0 hK hK0
  go_simp
  refine ⟨trivial, ?_⟩
  refine (callsIn_wide.2 (HC1.out v2)).mono ?_
  rintro e v3 ⟨rfl, hb7⟩
  have v3k : KeptW w0 v3 := KeptW.mono v2k hb7
  refine hK _ _ _ (fun _ h => h) v3k ?_
  clear hK K hK0 K0
  iterate 3 (refine RegJ.reads ?_; intro K hK; go_simp; (first | refine ⟨_, fun _ _ => rfl, hK _ ?_⟩ | refine hK _ ?_); clear hK K)
  refine RegJ.reads ?_
  intro K hK
  go_simp
  refine ⟨VA, fun y hy => ?_, hK _ ?_⟩
  · rw [← HVA.out]
    unfold macV
    rw [mac_eta M P]
    obtain ⟨⟨m0, m1, m14⟩, ⟨m2, m3, m4⟩, ⟨m5, m6, m7⟩, ⟨m8, m9, m10⟩, ⟨m11, m12, m13⟩⟩ := (Hloc.out y hy).2.1.cells
    go_simp
  clear hK K
  refine RegJ.reads ?_; intro K hK; go_simp; (first | refine ⟨_, fun _ _ => rfl, hK _ ?_⟩ | refine hK _ ?_); clear hK K
  refine RegJ.turns (fun _ => trivial) ?_
  intro K K0 hK hK0
  go_simp
  refine ⟨trivial, ?_⟩
  refine (callsIn_wide.2 (HC2.out v3)).mono ?_
  rintro e v4 ⟨rfl, hb7⟩
  have v4k : KeptW w0 v4 := KeptW.mono v3k hb7
  refine hK _ _ _ (fun _ h => h) v4k ?_
  clear hK K hK0 K0
  iterate 3 (refine RegJ.reads ?_; intro K hK; go_simp; (first | refine ⟨_, fun _ _ => rfl, hK _ ?_⟩ | refine hK _ ?_); clear hK K)
  refine RegJ.reads ?_
  intro K hK
  go_simp
  refine ⟨VA, fun y hy => ?_, hK _ ?_⟩
  · rw [← HVA.out]
    unfold macV
    rw [mac_eta M P]
    obtain ⟨⟨m0, m1, m14⟩, ⟨m2, m3, m4⟩, ⟨m5, m6, m7⟩, ⟨m8, m9, m10⟩, ⟨m11, m12, m13⟩⟩ := (Hloc.out y hy).2.1.cells
    go_simp
  clear hK K
  refine RegJ.reads ?_
  intro K hK
  go_simp
  refine ⟨.agg (tabCells M.tab).toArray, fun y hy => ?_, hK _ ?_⟩
  · rw [tab_eta]
    obtain ⟨⟨a0, a1, a2⟩, ⟨b0, b1, b2⟩, ⟨c0, c1, c2⟩, ⟨d0, d1, d2⟩⟩ := (Hloc.out y hy).1.cells
    go_simp
  clear hK K
  refine RegJ.turns (fun _ => trivial) ?_
  intro K K0 hK hK0
  go_simp
  refine ⟨trivial, ?_⟩
  refine (callsIn_wide.2 (HC3.out v4)).mono ?_
  rintro e v5 ⟨rfl, hb7⟩
  have v5k : KeptW w0 v5 := KeptW.mono v4k hb7
  refine hK _ _ _ (fun _ h => h) v5k ?_
  clear hK K hK0 K0
  refine RegJ.reads ?_
  intro K hK
  go_simp
  refine ⟨.bool true, fun y hy => ?_, hK _ ?_⟩
  · have f0 := tab_eql M.tab y
    go_simp
  clear hK K
  iterate 2 (refine RegJ.reads ?_; intro K hK; go_simp; (first | refine ⟨_, fun _ _ => rfl, hK _ ?_⟩ | refine hK _ ?_); clear hK K)
  refine RegJ.reads ?_
  intro K hK
  go_simp
  refine ⟨VA, fun y hy => ?_, hK _ ?_⟩
  · rw [← HVA.out]
    unfold macV
    rw [mac_eta M P]
    obtain ⟨⟨m0, m1, m14⟩, ⟨m2, m3, m4⟩, ⟨m5, m6, m7⟩, ⟨m8, m9, m10⟩, ⟨m11, m12, m13⟩⟩ := (Hloc.out y hy).2.1.cells
    go_simp
  clear hK K
  refine RegJ.reads ?_; intro K hK; go_simp; (first | refine ⟨_, fun _ _ => rfl, hK _ ?_⟩ | refine hK _ ?_); clear hK K
  refine RegJ.turns (fun _ => trivial) ?_
  intro K K0 hK hK0
  go_simp
  refine ⟨trivial, ?_⟩
  refine (callsIn_wide.2 (HC4.out v5)).mono ?_
  rintro e v6 ⟨rfl, hb7⟩
  have v6k : KeptW w0 v6 := KeptW.mono v5k hb7
  refine hK _ _ _ (fun _ h => h) v6k ?_
  clear hK K hK0 K0
  refine RegJ.reads ?_
  intro K hK
  go_simp
  refine ⟨.bool true, fun y hy => ?_, hK _ ?_⟩
  · have f0 := HPP.out y
    go_simp
  clear hK K
  iterate 2 (refine RegJ.reads ?_; intro K hK; go_simp; (first | refine ⟨_, fun _ _ => rfl, hK _ ?_⟩ | refine hK _ ?_); clear hK K)
  refine RegJ.turns (fun _ => trivial) ?_
  intro K K0 hK hK0
  go_simp
  refine ⟨trivial, ?_⟩
  refine (callsIn_wide.2 (mwakes_any v6)).mono ?_
  rintro e v7 ⟨rfl, hb7⟩
  have v7k : KeptW w0 v7 := KeptW.mono v6k hb7
  refine hK _ _ _ (fun _ h => h) v7k ?_
  clear hK K hK0 K0
  iterate 2 (refine RegJ.reads ?_; intro K hK; go_simp; (first | refine ⟨_, fun _ _ => rfl, hK _ ?_⟩ | refine hK _ ?_); clear hK K)
  refine RegJ.nil_calm ?_
  exact Hk.out _ _ _ _ _ _ _ _ _ _ _ _ _ _ _ _ _ _ _ _ _ _ _ _ _ _ _ _ _ _ _ _ _ _ _ (KeptW.bel v7k)
end Go.Proofs.Ytkngadbeflepoaa
/- A table of sessions, opened. No condition. -/
namespace Go.Proofs.Ytkngadbeflepoaa
open Go.ChangeShapes Go.WideShapes Go.Deep Go.RowKit

section
variable {H : Type} {enc : TypeId × Value → H} {w : World} {base : Nat} {spare : Nat → Bool} {held : Bool}
set_option maxRecDepth 100000 in
theorem last_open {m : Nat} {cs : List Value} {y : DataW H × List MemPlace} (h : DataW.trod enc Try.prog w base spare held m 63 cs = some y) : ∃ x : LastV, cs = lastCells x := by
  obtain ⟨ys, n, _, _, hl, hyl, hf⟩ := DataW.trod_struct Try.underlying63 h
  have h3 : Try.prog.cellsOf 63 = 3 := by kernel_rfl
  have h2 : Try.prog.cellsOf 51 = 2 := by kernel_rfl
  have h1a : Try.prog.cellsOf 54 = 1 := by kernel_rfl
  have h1b : Try.prog.cellsOf 5 = 1 := by kernel_rfl
  have h1c : Try.prog.cellsOf 9 = 1 := by kernel_rfl
  rw [h3] at hl
  match cs, hl, ys, hyl with
  | [c0, c1, c2], _, [y0, y1], _ =>
    have e0 := hf 0 _ rfl
    have e1 := hf 1 _ rfl
    simp [h1a, h2] at e0 e1
    obtain ⟨m0, q0, _, f0⟩ := DataW.trod_int Try.underlying54 e0
    obtain ⟨zs, n2, _, _, _, hzl, hg⟩ := DataW.trod_struct Try.underlying51 e1
    match zs, hzl with
    | [z0, z1], _ =>
      have g0 := hg 0 _ rfl
      have g1 := hg 1 _ rfl
      simp [h1b, h1c] at g0 g1
      obtain ⟨m1, q1, _, f1⟩ := DataW.trod_int Try.underlying5 g0
      obtain ⟨m2, q2, _, _⟩ := DataW.trod_string Try.underlying9 g1
      obtain ⟨x0, rfl⟩ := tr_u32 f0
      obtain ⟨x1, rfl⟩ := tr_u8 f1
      simp only [List.cons.injEq, and_true] at q0 q1 q2
      subst q0 q1 q2
      exact ⟨⟨x0, x1.toNat, m2⟩, rfl⟩
set_option maxRecDepth 100000 in
theorem table_open {v : Value} {d : DataW H} {pl : List MemPlace} {r : Reach} {ob : Nat}
    (hv : Value.okWide Try.prog w r ob 65 v) (h : DataW.Trod enc Try.prog w base spare held 65 v d pl) : ∃ t : TabV, v = .agg (tabCells t).toArray := by
  simp only [Value.okWide, Try.underlying65] at hv
  obtain ⟨cs, rfl, hsz, _⟩ := hv
  have h12 : cs.size = 12 := by rw [hsz]; kernel_rfl
  obtain ⟨m, hm⟩ := h
  have hm' : DataW.trod enc Try.prog w base spare held m 65 cs.toList = some (d, pl) := hm
  obtain ⟨xs, m1, _, _, _, hl, hel⟩ := DataW.trod_array Try.underlying65 hm'
  have h3 : Try.prog.cellsOf 63 = 3 := by kernel_rfl
  have hr : ∀ i, i < 4 → ∃ x : LastV, (cs.toList.drop (i * 3)).take 3 = lastCells x := fun i hi => by
    have := hel i hi
    rw [h3, List.getElem?_eq_getElem (by omega)] at this
    exact last_open this
  obtain ⟨a, ha⟩ := hr 0 (by omega)
  obtain ⟨b, hb⟩ := hr 1 (by omega)
  obtain ⟨c, hc⟩ := hr 2 (by omega)
  obtain ⟨e, he⟩ := hr 3 (by omega)
  refine ⟨⟨a, b, c, e⟩, congrArg Value.agg ?_⟩
  refine Array.ext' ?_
  show cs.toList = lastCells a ++ lastCells b ++ lastCells c ++ lastCells e
  rw [← ha, ← hb, ← hc, ← he]
  have hcl : cs.toList.length = 12 := by simpa using h12
  match cs.toList, hcl with
  | [_, _, _, _, _, _, _, _, _, _, _, _], _ => rfl
end
end Go.Proofs.Ytkngadbeflepoaa
