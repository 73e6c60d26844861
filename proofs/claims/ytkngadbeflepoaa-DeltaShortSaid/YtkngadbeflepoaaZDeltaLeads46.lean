/- Deltas: law14.wakes. No condition. -/
import Derived.Test.YtkngadbeflepoaaZDeltaLeads45
import Derived.Test.YtkngadbeflepoaaZDeltaLeads16
import Derived.Test.YtkngadbeflepoaaZDeltaLeads43
import Derived.Test.YtkngadbeflepoaaZDeltaLeads26
namespace Go.Proofs.Ytkngadbeflepoaa
open Go.RowKit
theorem cmds_one (w0 : World) (c : CmdV) : CmdsAt (w0.alloc (.cells (cmdCells c).toArray 56)) (some ⟨w0.heap.size, 0, none⟩) 1 [c] := by
  refine ⟨rfl, by unfold maxLen; omega, fun i x hi => ⟨w0.heap.size, 0, rfl, by rw [World.size_alloc]; omega, fun j v hj => ?_⟩⟩
  have h0 : i = 0 := by
    cases i with
    | zero => rfl
    | succ i => simp at hi
  subst h0
  simp only [List.getElem?_cons_zero, Option.some.injEq] at hi
  subst hi
  simp only [World.cell?, heap_alloc_new]
  rw [Nat.zero_add, Nat.zero_mul, Nat.zero_add]
  simpa using hj
set_option maxRecDepth 100000 in
set_option maxHeartbeats 16000000 in
theorem dwakes_any (w : World) : Calls Try.prog 47 #[] w fun e w' => e = .returned (.bool true) ∧ Below w.heap.size w w' := by
  have hnew : ∀ y : World, Calls Try.prog 31 #[.int .u8 7, .int .u8 3] y fun e w' => e = .returned (.tuple #[.agg (macCells dw0 none).toArray, .int .i64 0]) ∧ Below y.heap.size y w' := fun y => by
    have k := new_any 7 3 (by omega) (by omega) y
    rw [if_pos dw_sets] at k
    exact k
  obtain ⟨Mi, hMi⟩ : ∃ M, dw0 = M := ⟨_, rfl⟩
  rw [hMi, mac_eta] at hnew
  have Hnew := Lib.hid hnew; clear hnew
  have HMi := Lib.hid hMi; clear hMi
  go_enter Try.func47, Try.ntmps47
  go_upto_region 2 with ((with_reducible refine (Hnew.out _).mono ?_); rintro e wn ⟨rfl, hbn⟩; have HBn := Lib.hid hbn; clear hbn)
  change Code.wp _ _ _ _ (wn.alloc (.cells (macCells Mi none).toArray 69))
  have HI := Lib.hid (show OneI (wn.alloc (.cells (macCells Mi none).toArray 69)) wn.heap.size dw0 .nil from ⟨by rw [HMi.out]; exact heap_alloc_new _ _, trivial, (newM_parts 7 3).2.symm⟩)
  have HB := Lib.hid (HBn.out.alloc HBn.out.size (.cells (macCells Mi none).toArray 69))
  clear Hnew HBn
  generalize wn.alloc (.cells (macCells Mi none).toArray 69) = w0 at *
  generalize wn.heap.size = gm at *
  have hfo := fold_any dw0 .nil (some ⟨w0.heap.size, 0, none⟩) 1 1 [dwC] (w0.alloc (.cells (cmdCells dwC).toArray 56)) dw0_all.fit.ok trivial (newM_parts 7 3).2.symm (cmds_one w0 dwC)
  have hdw : macsDo dw0 [dwC] = dw1 := rfl
  rw [hdw, show (Tr.nil).ptr = none from rfl, HMi.out] at hfo
  unfold macV at hfo
  rw [mac_eta Mi none] at hfo
  have hcm : (cmdCells dwC).toArray = #[Value.int IntKind.u8 0, Value.int IntKind.u32 1, Value.int IntKind.u8 2, Value.string ⟨#[107]⟩, Value.string ⟨#[]⟩, Value.string ⟨#[118]⟩, Value.int IntKind.u8 0] := rfl
  rw [hcm] at hfo
  have Hfo := Lib.hid hfo; clear hfo hcm hdw
  obtain ⟨M1, hM1⟩ : ∃ M, dw1 = M := ⟨_, rfl⟩
  rw [hM1] at Hfo
  have HM1 := Lib.hid hM1; clear hM1
  obtain ⟨⟨m0, m1, m14⟩, ⟨m2, m3, m4⟩, ⟨m5, m6, m7⟩, ⟨m8, m9, m10⟩, ⟨m11, m12, m13⟩⟩ := HI.out.a.cells
  rw [HMi.out] at m0 m1 m2 m3 m4 m5 m6 m7 m8 m9 m10 m11 m12 m13
  rw [show (Tr.nil).ptr = none from rfl] at m14
  go_upto_region 3 with ((with_reducible refine Hfo.out.mono ?_); rintro e w1 ⟨X, rfl, hX, hXs, hb⟩; have HX := Lib.hid (And.intro hX (And.intro hXs hb)); clear hX hXs hb; rw [mac_eta M1 X.ptr])
  change Code.wp _ _ _ _ (w1.alloc (.cells (macCells M1 X.ptr).toArray 69))
  clear m0 m1 m2 m3 m4 m5 m6 m7 m8 m9 m10 m11 m12 m13 m14 Hfo
  have hb01 : Below w0.heap.size w0 (w1.alloc (.cells (macCells M1 X.ptr).toArray 69)) := (((Below.refl _ _).alloc (Nat.le_refl _) _).trans (HX.out.2.2.mono (by rw [World.size_alloc]; exact Nat.le_succ _))).alloc (by have := HX.out.2.2.size; rw [World.size_alloc] at this; omega) _
  have HI2 := Lib.hid (show TwoI (w1.alloc (.cells (macCells M1 X.ptr).toArray 69)) gm w1.heap.size dw0 dw1 .nil X from
    (HI.out.below hb01).two ⟨by rw [HM1.out]; exact heap_alloc_new _ _, HX.out.1.below ((Below.refl _ _).alloc (Nat.le_refl _) _), by rw [HM1.out]; exact HX.out.2.1⟩)
  have HB2 := Lib.hid (HB.out.trans (hb01.mono HB.out.size))
  clear HX HI HB hb01
  generalize w1.alloc (.cells (macCells M1 X.ptr).toArray 69) = w2 at *
  generalize w1.heap.size = gn at *
  have HA01 := Lib.hid (show MacAll dw0 ∧ MacAll dw1 ∧ dw0.all = dw1.all from ⟨dw0_all, dw1_all, dw_same⟩)
  clear HMi HM1
  go_upto_region 3 with fail
  refine dw_reg3 w2 gm gn dw0 dw1 .nil X HI2 HA01 _ _ _ _ _ _ _ _ _ _ _ _ _ _ _ _ _ _ _ _ _ _ _ _ _ _ _ _ _ _ _ _ _ _ _ _ _ _ _ _ _ _ _ _ _ _ _ _ _ _ _ _ _ _ _ _ _ _ _ _ _ _ _ _ _ _ _ _ _ _ _ _ _ _ _ _ _ _ _ _ _ (Lib.hid ?_)
  intro s20 s21 s22 s23 w3 hb3
  have HI3 := Lib.hid (HI2.out.below hb3)
  have HB3 := Lib.hid (HB2.out.trans (hb3.mono HB2.out.size))
  clear HI2 HB2 hb3
  go_upto_region 4 with fail
  refine dw_reg4 w3 gn dw1 X (Lib.hid ⟨HI3.out.b, HI3.out.tb, HI3.out.sb⟩) (Lib.hid dw1_all) _ _ _ _ _ _ _ _ _ _ _ _ _ _ _ _ _ _ _ _ _ _ _ _ _ _ _ _ _ _ _ _ _ _ _ _ _ _ _ _ _ _ _ _ _ _ _ _ _ _ _ _ _ _ _ _ _ _ _ _ _ _ _ _ _ _ _ _ _ _ _ _ _ _ _ _ _ _ _ _ _ _ (Lib.hid ?_)
  intro s26 s27 s28 s29 w4 hb4
  have HI4 := Lib.hid (HI3.out.below hb4)
  have HB4 := Lib.hid (HB3.out.trans (hb4.mono HB3.out.size))
  clear HI3 HB3 hb4
  obtain ⟨S1, hS1⟩ : ∃ S : ByteArray, (⟨(diffM dw0 dw1).toArray⟩ : ByteArray) = S := ⟨_, rfl⟩
  obtain ⟨S2, hS2⟩ : ∃ S : ByteArray, (⟨(diffM dw1 dw1).toArray⟩ : ByteArray) = S := ⟨_, rfl⟩
  have hz1 : (S1.size : Int) = 27 := by rw [← hS1]; exact congrArg (fun n : Nat => (n : Int)) dw_len1
  have hz2 : (S2.size : Int) = 19 := by rw [← hS2]; exact congrArg (fun n : Nat => (n : Int)) dw_len2
  have HS1 := Lib.hid hS1
  have HS2 := Lib.hid hS2
  rw [hS1, hS2]
  clear hS1 hS2
  go_upto_region 7 with fail
  rw [← HS1.out]
  refine dw_reg7 w4 gm dw0 dw1 .nil (Lib.hid ⟨HI4.out.a, HI4.out.ta, HI4.out.sa⟩) HA01 _ _ _ _ _ _ _ _ _ _ _ _ _ _ _ _ _ _ _ _ _ _ _ _ _ _ _ _ _ _ _ _ _ _ _ _ _ _ _ _ _ _ _ _ _ _ _ _ _ _ _ _ _ _ _ _ _ _ _ _ _ _ _ _ _ _ _ _ _ _ _ _ _ _ _ _ _ _ _ _ _ (Lib.hid ?_)
  intro s48 s49 s50 s51 s52 s53 gz Z w5 hU
  have HU5 := Lib.hid hU.1
  have HI5 := Lib.hid (HI4.out.below hU.2.1)
  have HB5 := Lib.hid (HB4.out.trans (hU.2.1.mono HB4.out.size))
  clear HI4 HB4 hU
  rw [HS1.out]
  go_upto_region 8 with fail
  refine dw_reg8 w5 gn dw1 X S1 14 (Lib.hid ⟨HI5.out.b, HI5.out.tb, HI5.out.sb⟩) (Lib.hid ⟨dw1_all, by rw [← HS1.out]; exact diffM_len dw0_all.fit dw1_all.fit, by rw [← HS1.out]; exact dw_clash⟩) _ _ _ _ _ _ _ _ _ _ _ _ _ _ _ _ _ _ _ _ _ _ _ _ _ _ _ _ _ _ _ _ _ _ _ _ _ _ _ _ _ _ _ _ _ _ _ _ _ _ _ _ _ _ _ _ _ _ _ _ _ _ _ _ _ _ _ _ _ _ _ _ _ _ _ _ _ _ _ _ _ (Lib.hid ?_)
  intro s54 s55 s56 s57 s58 s59 gv w6 hV
  have HU6 := Lib.hid (HU5.out.below hV.2.1)
  have HI6 := Lib.hid (HI5.out.below hV.2.1)
  have HB6 := Lib.hid (HB5.out.trans (hV.2.1.mono HB5.out.size))
  clear HI5 HB5 HU5 hV
  go_upto_region 9 with fail
  refine dw_reg9 w6 gz gn dw1 Z X S1 S2 (fun _ _ d _ _ h => by cases d <;> exact h) (Lib.hid (HU6.out.two ⟨HI6.out.b, HI6.out.tb, HI6.out.sb⟩)) (Lib.hid (macFit_by dw1_all.fit)) hz1 hz2 (by rw [← HS1.out]; exact dw_ext1) (by rw [← HS2.out]; exact dw_ext2) _ _ _ _ _ _ _ _ _ _ _ _ _ _ _ _ _ _ _ _ _ _ _ _ _ _ _ _ _ _ _ _ _ _ _ _ _ _ _ _ _ _ _ _ _ _ _ _ _ _ _ _ _ _ _ _ _ _ _ _ _ _ _ _ _ _ _ _ _ _ _ _ _ _ _ _ _ (Lib.hid ?_)
  intro s60 s61 s62 s63 s64 s65 s66 s67 s68 s69 s70 s71 s72 s73 s74 s75 s76 s77 s78 s79 s80 s81 w7 hb7
  have HB7 := Lib.hid (HB6.out.trans (hb7.mono HB6.out.size))
  clear HI6 HB6 HU6 HS1 HS2 HA01 hb7
  go_wp2_with fail
  go_ret
  exact ⟨rfl, HB7.out⟩
end Go.Proofs.Ytkngadbeflepoaa
namespace Go.Proofs.Ytkngadbeflepoaa
open Go.RowKit
set_option maxRecDepth 100000 in
set_option maxHeartbeats 16000000 in
theorem lead_reg23 (w0 : World) (gy gz ga gx gb : Nat) (A B : MacV) (X1 X2 X3 X4 X5 : Tr) {Q : Exit → Act → World → Prop}
    (hQ : ∀ c a d v w, Q (.panic c) (Act.put a d v) w → Q (.panic c) a w) (H1 : Hid (TwoI w0 gy gb B B X1 X2)) (H2 : Hid (TwoI w0 gz ga A A X3 X4)) (H3 : Hid (OneI w0 gx B X5)) (HA : Hid (MacBy A ∧ MacBy B))
    (u0 u1 u2 u3 u4 u5 u6 u7 u8 u9 u10 u14 u15 u16 u17 u18 u19 u20 u21 u22 u24 u30 u31 u32 u33 u34 u35 u36 u37 u38 u39 u40 u41 u42 u43 u44 u45 u46 u47 u48 u49 u50 u51 u52 u53 u54 u55 u56 u57 u58 u59 u60 u61 u62 u63 u64 u65 u66 u67 u68 u69 u70 u71 u72 u73 u74 u75 u76 u77 u78 u79 u80 u81 u82 u83 u84 u85 u86 u87 u88 u89 u90 u91 u92 u93 u94 u95 u96 u97 u98 u99 u100 u101 u102 u103 u104 u105 u106 u107 u108 u109 u110 u111 u112 u113 u114 u115 u116 u117 u118 u119 u120 u121 u122 u123 u124 u125 u126 u127 u128 u129 u130 u131 u132 u133 u134 u135 u136 u137 u138 u139 u140 u141 u142 u143 u144 u145 u146 u147 u148 u149 u150 u151 u152 u153 u154 u155 : Value)
    (Hk : Hid (∀ (s118 s119 s120 s121 s122 s123 s124 s125 s126 s127 s128 s129 s130 s131 s132 s133 s134 s135 s136 s137 s138 s139 s140 s141 s142 s143 s144 s145 s146 s147 s148 s149 s150 s151 s152 s153 s154 : Value) (w2 : World), Below w0.heap.size w0 w2 → Q .normal ⟨List.toArray (u0 :: u1 :: u2 :: u3 :: u4 :: u5 :: u6 :: u7 :: Value.bool true :: u9 :: u10 :: Value.pointer (some ⟨ga, 0, none⟩) :: Value.pointer (some ⟨gx, 0, none⟩) :: Value.pointer (some ⟨gb, 0, none⟩) :: u14 :: u15 :: u16 :: u17 :: u18 :: u19 :: u20 :: u21 :: u22 :: Value.int .i64 0 :: u24 :: Value.int .i64 0 :: Value.pointer (some ⟨gy, 0, none⟩) :: Value.int .i64 0 :: Value.pointer (some ⟨gz, 0, none⟩) :: Value.int .i64 0 :: u30 :: u31 :: u32 :: u33 :: u34 :: u35 :: u36 :: u37 :: u38 :: u39 :: u40 :: u41 :: u42 :: u43 :: u44 :: u45 :: u46 :: u47 :: u48 :: u49 :: u50 :: u51 :: u52 :: u53 :: u54 :: u55 :: u56 :: u57 :: u58 :: u59 :: u60 :: u61 :: u62 :: u63 :: u64 :: u65 :: u66 :: u67 :: u68 :: u69 :: u70 :: u71 :: u72 :: u73 :: u74 :: u75 :: u76 :: u77 :: u78 :: u79 :: u80 :: u81 :: u82 :: u83 :: u84 :: u85 :: u86 :: u87 :: u88 :: u89 :: u90 :: u91 :: u92 :: u93 :: u94 :: u95 :: u96 :: u97 :: u98 :: u99 :: u100 :: u101 :: u102 :: u103 :: u104 :: u105 :: u106 :: u107 :: u108 :: u109 :: u110 :: u111 :: u112 :: u113 :: u114 :: u115 :: u116 :: u117 :: s118 :: s119 :: s120 :: s121 :: s122 :: s123 :: s124 :: s125 :: s126 :: s127 :: s128 :: s129 :: s130 :: s131 :: s132 :: s133 :: s134 :: s135 :: s136 :: s137 :: s138 :: s139 :: s140 :: s141 :: s142 :: s143 :: s144 :: s145 :: s146 :: s147 :: s148 :: s149 :: s150 :: s151 :: s152 :: s153 :: s154 :: Value.bool true :: []), []⟩ w2)) :
    Code.wp Try.prog (findR 23 (Try.f9.body.getD .skip)) Q ⟨List.toArray (u0 :: u1 :: u2 :: u3 :: u4 :: u5 :: u6 :: u7 :: u8 :: u9 :: u10 :: Value.pointer (some ⟨ga, 0, none⟩) :: Value.pointer (some ⟨gx, 0, none⟩) :: Value.pointer (some ⟨gb, 0, none⟩) :: u14 :: u15 :: u16 :: u17 :: u18 :: u19 :: u20 :: u21 :: u22 :: Value.int .i64 0 :: u24 :: Value.int .i64 0 :: Value.pointer (some ⟨gy, 0, none⟩) :: Value.int .i64 0 :: Value.pointer (some ⟨gz, 0, none⟩) :: Value.int .i64 0 :: u30 :: u31 :: u32 :: u33 :: u34 :: u35 :: u36 :: u37 :: u38 :: u39 :: u40 :: u41 :: u42 :: u43 :: u44 :: u45 :: u46 :: u47 :: u48 :: u49 :: u50 :: u51 :: u52 :: u53 :: u54 :: u55 :: u56 :: u57 :: u58 :: u59 :: u60 :: u61 :: u62 :: u63 :: u64 :: u65 :: u66 :: u67 :: u68 :: u69 :: u70 :: u71 :: u72 :: u73 :: u74 :: u75 :: u76 :: u77 :: u78 :: u79 :: u80 :: u81 :: u82 :: u83 :: u84 :: u85 :: u86 :: u87 :: u88 :: u89 :: u90 :: u91 :: u92 :: u93 :: u94 :: u95 :: u96 :: u97 :: u98 :: u99 :: u100 :: u101 :: u102 :: u103 :: u104 :: u105 :: u106 :: u107 :: u108 :: u109 :: u110 :: u111 :: u112 :: u113 :: u114 :: u115 :: u116 :: u117 :: u118 :: u119 :: u120 :: u121 :: u122 :: u123 :: u124 :: u125 :: u126 :: u127 :: u128 :: u129 :: u130 :: u131 :: u132 :: u133 :: u134 :: u135 :: u136 :: u137 :: u138 :: u139 :: u140 :: u141 :: u142 :: u143 :: u144 :: u145 :: u146 :: u147 :: u148 :: u149 :: u150 :: u151 :: u152 :: u153 :: u154 :: u155 :: []), []⟩ w0 := by
  conv => arg 2; whnf
  have Hl1 := Lib.hid (fun (y : World) (hy : KeptW w0 y) => H1.out.below (KeptW.bel hy))
  have Hl2 := Lib.hid (fun (y : World) (hy : KeptW w0 y) => H2.out.below (KeptW.bel hy))
  have Hl3 := Lib.hid (fun (y : World) (hy : KeptW w0 y) => H3.out.below (KeptW.bel hy))
  obtain ⟨V1, hV1⟩ : ∃ V, macV B X1.ptr = V := ⟨_, rfl⟩
  obtain ⟨V2, hV2⟩ : ∃ V, macV B X2.ptr = V := ⟨_, rfl⟩
  obtain ⟨V3, hV3⟩ : ∃ V, macV A X3.ptr = V := ⟨_, rfl⟩
  obtain ⟨V4, hV4⟩ : ∃ V, macV A X4.ptr = V := ⟨_, rfl⟩
  obtain ⟨V5, hV5⟩ : ∃ V, macV B X5.ptr = V := ⟨_, rfl⟩
  obtain ⟨SA, hSA⟩ : ∃ S : ByteArray, (⟨(macB A).toArray⟩ : ByteArray) = S := ⟨_, rfl⟩
  obtain ⟨SB, hSB⟩ : ∃ S : ByteArray, (⟨(macB B).toArray⟩ : ByteArray) = S := ⟨_, rfl⟩
  have HB1 := Lib.hid (fun (y : World) (hy : KeptW w0 y) => (show Calls Try.prog 37 #[V1] y fun e w' => e = .returned (.string SB) ∧ Below y.heap.size y w' by
    have h := Hl1.out y hy
    rw [← hV1, ← hSB]
    exact mbytes_any B X1 HA.out.2 y h.ta h.sa))
  have HB2 := Lib.hid (fun (y : World) (hy : KeptW w0 y) => (show Calls Try.prog 37 #[V2] y fun e w' => e = .returned (.string SB) ∧ Below y.heap.size y w' by
    have h := Hl1.out y hy
    rw [← hV2, ← hSB]
    exact mbytes_any B X2 HA.out.2 y h.tb h.sb))
  have HB3 := Lib.hid (fun (y : World) (hy : KeptW w0 y) => (show Calls Try.prog 37 #[V3] y fun e w' => e = .returned (.string SA) ∧ Below y.heap.size y w' by
    have h := Hl2.out y hy
    rw [← hV3, ← hSA]
    exact mbytes_any A X3 HA.out.1 y h.ta h.sa))
  have HB4 := Lib.hid (fun (y : World) (hy : KeptW w0 y) => (show Calls Try.prog 37 #[V4] y fun e w' => e = .returned (.string SA) ∧ Below y.heap.size y w' by
    have h := Hl2.out y hy
    rw [← hV4, ← hSA]
    exact mbytes_any A X4 HA.out.1 y h.tb h.sb))
  have HB5 := Lib.hid (fun (y : World) (hy : KeptW w0 y) => (show Calls Try.prog 37 #[V5] y fun e w' => e = .returned (.string SB) ∧ Below y.heap.size y w' by
    have h := Hl3.out y hy
    rw [← hV5, ← hSB]
    exact mbytes_any B X5 HA.out.2 y h.t h.s))
  have HV1 := Lib.hid hV1; clear hV1
  have HV2 := Lib.hid hV2; clear hV2
  have HV3 := Lib.hid hV3; clear hV3
  have HV4 := Lib.hid hV4; clear hV4
  have HV5 := Lib.hid hV5; clear hV5
  clear hSA hSB
  refine (wpIn_wide (n := 1)).1 ?_
  refine RegJ.wpIn_region_plan (F := Fence.wide) (KeptW w0) (.step 0 0 (.step 1 0 (.step 2 0 (.step 3 0 (.step 4 0 (.step 5 0 (.step 6 0 (.step 7 0 (.step 8 0 (.step 9 0 (.step 10 0 (.step 11 0 (.step 12 0 (.step 13 0 (.step 14 0 (.step 15 0 (.step 17 0 (.step 16 1 (.step 18 1 (.step 19 0 (.step 20 0 (.step 21 0 (.step 22 0 (.step 24 0 (.step 23 1 (.step 25 1 (.step 26 0 (.step 27 0 (.step 28 0 (.step 29 0 (.step 31 0 (.step 30 1 (.step 32 1 (.step 33 0 (.step 34 0 (.step 35 0 (.step 36 1 (.step 37 0 (.step 38 0 .nil))))))))))))))))))))))))))))))))))))))) (by kernel_rfl) (by kernel_rfl) (by kernel_rfl) hQ ⟨rfl, rfl, rfl, Nat.le_refl _, fun _ _ => rfl⟩ ?_
  dsimp only [RegJ.pickJ, List.getElem?_cons_zero, List.getElem?_cons_succ]
  change RegJ.Can _ _ _ _ _ _ _ _ w0.drew
  have hkd : KeptW w0 w0.drew := ⟨rfl, rfl, rfl, Nat.le_refl _, fun _ _ => rfl⟩
  generalize w0.drew = v1 at *
  iterate 15 (refine RegJ.reads ?_; intro K hK; go_simp; (first | refine ⟨_, fun _ _ => rfl, hK _ ?_⟩ | refine hK _ ?_); clear hK K)
  refine RegJ.reads ?_
  intro K hK
  go_simp
  refine ⟨V1, fun y hy => ?_, hK _ ?_⟩
  · rw [← HV1.out]
    unfold macV
    rw [mac_eta B X1.ptr]
    obtain ⟨⟨m0, m1, m14⟩, ⟨m2, m3, m4⟩, ⟨m5, m6, m7⟩, ⟨m8, m9, m10⟩, ⟨m11, m12, m13⟩⟩ := (Hl1.out y hy).a.cells
    go_simp
  clear hK K
  refine RegJ.reads ?_
  intro K hK
  go_simp
  refine ⟨V2, fun y hy => ?_, hK _ ?_⟩
  · rw [← HV2.out]
    unfold macV
    rw [mac_eta B X2.ptr]
    obtain ⟨⟨m0, m1, m14⟩, ⟨m2, m3, m4⟩, ⟨m5, m6, m7⟩, ⟨m8, m9, m10⟩, ⟨m11, m12, m13⟩⟩ := (Hl1.out y hy).b.cells
    go_simp
  clear hK K
  refine RegJ.turns (fun _ => trivial) ?_
  intro K K0 hK hK0
  go_simp
  refine ⟨trivial, ?_⟩
  refine (callsIn_wide.2 (HB1.out v1 (hkd))).mono ?_
  rintro e v2 ⟨rfl, hb7⟩
  have v2k : KeptW w0 v2 := KeptW.mono hkd hb7
  refine hK _ _ _ (fun _ h => h) v2k ?_
  clear hK K hK0 K0
  refine RegJ.turns (fun _ => trivial) ?_
  intro K K0 hK hK0
  go_simp
  refine ⟨trivial, ?_⟩
  refine (callsIn_wide.2 (HB2.out v2 (v2k))).mono ?_
  rintro e v3 ⟨rfl, hb7⟩
  have v3k : KeptW w0 v3 := KeptW.mono v2k hb7
  refine hK _ _ _ (fun _ h => h) v3k ?_
  clear hK K hK0 K0
  iterate 3 (refine RegJ.reads ?_; intro K hK; go_simp; (first | refine ⟨_, fun _ _ => rfl, hK _ ?_⟩ | refine hK _ ?_); clear hK K)
  refine RegJ.reads ?_
  intro K hK
  go_simp
  refine ⟨V3, fun y hy => ?_, hK _ ?_⟩
  · rw [← HV3.out]
    unfold macV
    rw [mac_eta A X3.ptr]
    obtain ⟨⟨m0, m1, m14⟩, ⟨m2, m3, m4⟩, ⟨m5, m6, m7⟩, ⟨m8, m9, m10⟩, ⟨m11, m12, m13⟩⟩ := (Hl2.out y hy).a.cells
    go_simp
  clear hK K
  refine RegJ.reads ?_
  intro K hK
  go_simp
  refine ⟨V4, fun y hy => ?_, hK _ ?_⟩
  · rw [← HV4.out]
    unfold macV
    rw [mac_eta A X4.ptr]
    obtain ⟨⟨m0, m1, m14⟩, ⟨m2, m3, m4⟩, ⟨m5, m6, m7⟩, ⟨m8, m9, m10⟩, ⟨m11, m12, m13⟩⟩ := (Hl2.out y hy).b.cells
    go_simp
  clear hK K
  refine RegJ.turns (fun _ => trivial) ?_
  intro K K0 hK hK0
  go_simp
  refine ⟨trivial, ?_⟩
  refine (callsIn_wide.2 (HB3.out v3 (v3k))).mono ?_
  rintro e v4 ⟨rfl, hb7⟩
  have v4k : KeptW w0 v4 := KeptW.mono v3k hb7
  refine hK _ _ _ (fun _ h => h) v4k ?_
  clear hK K hK0 K0
  refine RegJ.turns (fun _ => trivial) ?_
  intro K K0 hK hK0
  go_simp
  refine ⟨trivial, ?_⟩
  refine (callsIn_wide.2 (HB4.out v4 (v4k))).mono ?_
  rintro e v5 ⟨rfl, hb7⟩
  have v5k : KeptW w0 v5 := KeptW.mono v4k hb7
  refine hK _ _ _ (fun _ h => h) v5k ?_
  clear hK K hK0 K0
  iterate 3 (refine RegJ.reads ?_; intro K hK; go_simp; (first | refine ⟨_, fun _ _ => rfl, hK _ ?_⟩ | refine hK _ ?_); clear hK K)
  refine RegJ.reads ?_
  intro K hK
  go_simp
  refine ⟨V5, fun y hy => ?_, hK _ ?_⟩
  · rw [← HV5.out]
    unfold macV
    rw [mac_eta B X5.ptr]
    obtain ⟨⟨m0, m1, m14⟩, ⟨m2, m3, m4⟩, ⟨m5, m6, m7⟩, ⟨m8, m9, m10⟩, ⟨m11, m12, m13⟩⟩ := (Hl3.out y hy).a.cells
    go_simp
  clear hK K
  refine RegJ.reads ?_
  intro K hK
  go_simp
  refine ⟨V2, fun y hy => ?_, hK _ ?_⟩
  · rw [← HV2.out]
    unfold macV
    rw [mac_eta B X2.ptr]
    obtain ⟨⟨m0, m1, m14⟩, ⟨m2, m3, m4⟩, ⟨m5, m6, m7⟩, ⟨m8, m9, m10⟩, ⟨m11, m12, m13⟩⟩ := (Hl1.out y hy).b.cells
    go_simp
  clear hK K
  refine RegJ.turns (fun _ => trivial) ?_
  intro K K0 hK hK0
  go_simp
  refine ⟨trivial, ?_⟩
  refine (callsIn_wide.2 (HB5.out v5 (v5k))).mono ?_
  rintro e v6 ⟨rfl, hb7⟩
  have v6k : KeptW w0 v6 := KeptW.mono v5k hb7
  refine hK _ _ _ (fun _ h => h) v6k ?_
  clear hK K hK0 K0
  refine RegJ.turns (fun _ => trivial) ?_
  intro K K0 hK hK0
  go_simp
  refine ⟨trivial, ?_⟩
  refine (callsIn_wide.2 (HB2.out v6 (v6k))).mono ?_
  rintro e v7 ⟨rfl, hb7⟩
  have v7k : KeptW w0 v7 := KeptW.mono v6k hb7
  refine hK _ _ _ (fun _ h => h) v7k ?_
  clear hK K hK0 K0
  iterate 3 (refine RegJ.reads ?_; intro K hK; go_simp; (first | refine ⟨_, fun _ _ => rfl, hK _ ?_⟩ | refine hK _ ?_); clear hK K)
  refine RegJ.turns (fun _ => trivial) ?_
  intro K K0 hK hK0
  go_simp
  refine ⟨trivial, ?_⟩
  refine (callsIn_wide.2 (dwakes_any v7)).mono ?_
  rintro e v8 ⟨rfl, hb7⟩
  have v8k : KeptW w0 v8 := KeptW.mono v7k hb7
  refine hK _ _ _ (fun _ h => h) v8k ?_
  clear hK K hK0 K0
  iterate 2 (refine RegJ.reads ?_; intro K hK; go_simp; (first | refine ⟨_, fun _ _ => rfl, hK _ ?_⟩ | refine hK _ ?_); clear hK K)
  refine RegJ.nil ?_
  exact Hk.out _ _ _ _ _ _ _ _ _ _ _ _ _ _ _ _ _ _ _ _ _ _ _ _ _ _ _ _ _ _ _ _ _ _ _ _ _ _ (KeptW.bel v8k)
end Go.Proofs.Ytkngadbeflepoaa
namespace Go.Proofs.Ytkngadbeflepoaa
open Go.RowKit
set_option maxRecDepth 100000 in
set_option maxHeartbeats 16000000 in
theorem lead_reg17 (w0 : World) (g1 g2 : Nat) (A B : MacV) (P P2 : Option Addr) {Q : Exit → Act → World → Prop}
    (HA : Hid (MacAt w0 g1 A P)) (HB : Hid (MacAt w0 g2 B P2))
    (u0 u1 u2 u3 u4 u5 u6 u7 u8 u9 u10 u11 u13 u14 u15 u16 u17 u18 u19 u21 u22 u23 u24 u25 u26 u27 u28 u29 u30 u31 u32 u33 u34 u35 u36 u37 u38 u39 u40 u41 u42 u43 u44 u45 u46 u47 u48 u49 u50 u51 u52 u53 u54 u55 u56 u57 u58 u59 u60 u61 u62 u63 u64 u65 u66 u67 u68 u69 u70 u71 u72 u73 u74 u75 u76 u77 u78 u79 u80 u81 u82 u83 u84 u85 u86 u87 u88 u89 u90 u91 u92 u93 u94 u95 u96 u97 u98 u99 u100 u101 u102 u103 u104 u105 u106 u107 u108 u109 u110 u111 u112 u113 u114 u115 u116 u117 u118 u119 u120 u121 u122 u123 u124 u125 u126 u127 u128 u129 u130 u131 u132 u133 u134 u135 u136 u137 u138 u139 u140 u141 u142 u143 u144 u145 u146 u147 u148 u149 u150 u151 u152 u153 u154 u155 : Value)
    (Hk : Hid (∀ (s92 : Value) (w2 : World), w2 = rowSt w0 g2 0 (macCells A P) → Q .normal ⟨List.toArray (u0 :: u1 :: u2 :: u3 :: u4 :: u5 :: u6 :: u7 :: u8 :: u9 :: u10 :: u11 :: Value.pointer (some ⟨g2, 0, none⟩) :: u13 :: u14 :: u15 :: u16 :: u17 :: u18 :: u19 :: Value.pointer (some ⟨g1, 0, none⟩) :: u21 :: u22 :: u23 :: u24 :: u25 :: u26 :: u27 :: u28 :: u29 :: u30 :: u31 :: u32 :: u33 :: u34 :: u35 :: u36 :: u37 :: u38 :: u39 :: u40 :: u41 :: u42 :: u43 :: u44 :: u45 :: u46 :: u47 :: u48 :: u49 :: u50 :: u51 :: u52 :: u53 :: u54 :: u55 :: u56 :: u57 :: u58 :: u59 :: u60 :: u61 :: u62 :: u63 :: u64 :: u65 :: u66 :: u67 :: u68 :: u69 :: u70 :: u71 :: u72 :: u73 :: u74 :: u75 :: u76 :: u77 :: u78 :: u79 :: u80 :: u81 :: u82 :: u83 :: u84 :: u85 :: u86 :: u87 :: u88 :: u89 :: u90 :: u91 :: s92 :: u93 :: u94 :: u95 :: u96 :: u97 :: u98 :: u99 :: u100 :: u101 :: u102 :: u103 :: u104 :: u105 :: u106 :: u107 :: u108 :: u109 :: u110 :: u111 :: u112 :: u113 :: u114 :: u115 :: u116 :: u117 :: u118 :: u119 :: u120 :: u121 :: u122 :: u123 :: u124 :: u125 :: u126 :: u127 :: u128 :: u129 :: u130 :: u131 :: u132 :: u133 :: u134 :: u135 :: u136 :: u137 :: u138 :: u139 :: u140 :: u141 :: u142 :: u143 :: u144 :: u145 :: u146 :: u147 :: u148 :: u149 :: u150 :: u151 :: u152 :: u153 :: u154 :: u155 :: []), []⟩ w2)) :
    Code.wp Try.prog (findR 17 (Try.f9.body.getD .skip)) Q ⟨List.toArray (u0 :: u1 :: u2 :: u3 :: u4 :: u5 :: u6 :: u7 :: u8 :: u9 :: u10 :: u11 :: Value.pointer (some ⟨g2, 0, none⟩) :: u13 :: u14 :: u15 :: u16 :: u17 :: u18 :: u19 :: Value.pointer (some ⟨g1, 0, none⟩) :: u21 :: u22 :: u23 :: u24 :: u25 :: u26 :: u27 :: u28 :: u29 :: u30 :: u31 :: u32 :: u33 :: u34 :: u35 :: u36 :: u37 :: u38 :: u39 :: u40 :: u41 :: u42 :: u43 :: u44 :: u45 :: u46 :: u47 :: u48 :: u49 :: u50 :: u51 :: u52 :: u53 :: u54 :: u55 :: u56 :: u57 :: u58 :: u59 :: u60 :: u61 :: u62 :: u63 :: u64 :: u65 :: u66 :: u67 :: u68 :: u69 :: u70 :: u71 :: u72 :: u73 :: u74 :: u75 :: u76 :: u77 :: u78 :: u79 :: u80 :: u81 :: u82 :: u83 :: u84 :: u85 :: u86 :: u87 :: u88 :: u89 :: u90 :: u91 :: u92 :: u93 :: u94 :: u95 :: u96 :: u97 :: u98 :: u99 :: u100 :: u101 :: u102 :: u103 :: u104 :: u105 :: u106 :: u107 :: u108 :: u109 :: u110 :: u111 :: u112 :: u113 :: u114 :: u115 :: u116 :: u117 :: u118 :: u119 :: u120 :: u121 :: u122 :: u123 :: u124 :: u125 :: u126 :: u127 :: u128 :: u129 :: u130 :: u131 :: u132 :: u133 :: u134 :: u135 :: u136 :: u137 :: u138 :: u139 :: u140 :: u141 :: u142 :: u143 :: u144 :: u145 :: u146 :: u147 :: u148 :: u149 :: u150 :: u151 :: u152 :: u153 :: u154 :: u155 :: []), []⟩ w0 := by
  conv => arg 2; whnf
  obtain ⟨⟨a0, a1, a14⟩, ⟨a2, a3, a4⟩, ⟨a5, a6, a7⟩, ⟨a8, a9, a10⟩, ⟨a11, a12, a13⟩⟩ := HA.out.cells
  obtain ⟨⟨b0, b1, b14⟩, ⟨b2, b3, b4⟩, ⟨b5, b6, b7⟩, ⟨b8, b9, b10⟩, ⟨b11, b12, b13⟩⟩ := HB.out.cells
  have q0 := HB.out.thawed 0; have q1 := HB.out.thawed 1; have q2 := HB.out.thawed 2; have q3 := HB.out.thawed 3; have q4 := HB.out.thawed 4; have q5 := HB.out.thawed 5; have q6 := HB.out.thawed 6; have q7 := HB.out.thawed 7; have q8 := HB.out.thawed 8; have q9 := HB.out.thawed 9; have q10 := HB.out.thawed 10; have q11 := HB.out.thawed 11; have q12 := HB.out.thawed 12; have q13 := HB.out.thawed 13; have q14 := HB.out.thawed 14
  clear HA HB
  go_wp2_with fail
  exact Hk.out _ _ rfl
set_option maxRecDepth 100000 in
set_option maxHeartbeats 16000000 in
theorem lead_reg18 (w0 : World) (g1 g2 : Nat) (A B : MacV) (P P2 : Option Addr) {Q : Exit → Act → World → Prop}
    (HA : Hid (MacAt w0 g1 A P)) (HB : Hid (MacAt w0 g2 B P2))
    (u0 u1 u2 u3 u4 u5 u6 u7 u8 u9 u10 u11 u12 u14 u16 u17 u18 u19 u20 u21 u22 u23 u24 u25 u26 u27 u28 u29 u30 u31 u32 u33 u34 u35 u36 u37 u38 u39 u40 u41 u42 u43 u44 u45 u46 u47 u48 u49 u50 u51 u52 u53 u54 u55 u56 u57 u58 u59 u60 u61 u62 u63 u64 u65 u66 u67 u68 u69 u70 u71 u72 u73 u74 u75 u76 u77 u78 u79 u80 u81 u82 u83 u84 u85 u86 u87 u88 u89 u90 u91 u92 u93 u94 u95 u96 u97 u98 u99 u100 u101 u102 u103 u104 u105 u106 u107 u108 u109 u110 u111 u112 u113 u114 u115 u116 u117 u118 u119 u120 u121 u122 u123 u124 u125 u126 u127 u128 u129 u130 u131 u132 u133 u134 u135 u136 u137 u138 u139 u140 u141 u142 u143 u144 u145 u146 u147 u148 u149 u150 u151 u152 u153 u154 u155 : Value)
    (Hk : Hid (∀ (s93 : Value) (w2 : World), w2 = rowSt w0 g2 0 (macCells A P) → Q .normal ⟨List.toArray (u0 :: u1 :: u2 :: u3 :: u4 :: u5 :: u6 :: u7 :: u8 :: u9 :: u10 :: u11 :: u12 :: Value.pointer (some ⟨g2, 0, none⟩) :: u14 :: Value.pointer (some ⟨g1, 0, none⟩) :: u16 :: u17 :: u18 :: u19 :: u20 :: u21 :: u22 :: u23 :: u24 :: u25 :: u26 :: u27 :: u28 :: u29 :: u30 :: u31 :: u32 :: u33 :: u34 :: u35 :: u36 :: u37 :: u38 :: u39 :: u40 :: u41 :: u42 :: u43 :: u44 :: u45 :: u46 :: u47 :: u48 :: u49 :: u50 :: u51 :: u52 :: u53 :: u54 :: u55 :: u56 :: u57 :: u58 :: u59 :: u60 :: u61 :: u62 :: u63 :: u64 :: u65 :: u66 :: u67 :: u68 :: u69 :: u70 :: u71 :: u72 :: u73 :: u74 :: u75 :: u76 :: u77 :: u78 :: u79 :: u80 :: u81 :: u82 :: u83 :: u84 :: u85 :: u86 :: u87 :: u88 :: u89 :: u90 :: u91 :: u92 :: s93 :: u94 :: u95 :: u96 :: u97 :: u98 :: u99 :: u100 :: u101 :: u102 :: u103 :: u104 :: u105 :: u106 :: u107 :: u108 :: u109 :: u110 :: u111 :: u112 :: u113 :: u114 :: u115 :: u116 :: u117 :: u118 :: u119 :: u120 :: u121 :: u122 :: u123 :: u124 :: u125 :: u126 :: u127 :: u128 :: u129 :: u130 :: u131 :: u132 :: u133 :: u134 :: u135 :: u136 :: u137 :: u138 :: u139 :: u140 :: u141 :: u142 :: u143 :: u144 :: u145 :: u146 :: u147 :: u148 :: u149 :: u150 :: u151 :: u152 :: u153 :: u154 :: u155 :: []), []⟩ w2)) :
    Code.wp Try.prog (findR 18 (Try.f9.body.getD .skip)) Q ⟨List.toArray (u0 :: u1 :: u2 :: u3 :: u4 :: u5 :: u6 :: u7 :: u8 :: u9 :: u10 :: u11 :: u12 :: Value.pointer (some ⟨g2, 0, none⟩) :: u14 :: Value.pointer (some ⟨g1, 0, none⟩) :: u16 :: u17 :: u18 :: u19 :: u20 :: u21 :: u22 :: u23 :: u24 :: u25 :: u26 :: u27 :: u28 :: u29 :: u30 :: u31 :: u32 :: u33 :: u34 :: u35 :: u36 :: u37 :: u38 :: u39 :: u40 :: u41 :: u42 :: u43 :: u44 :: u45 :: u46 :: u47 :: u48 :: u49 :: u50 :: u51 :: u52 :: u53 :: u54 :: u55 :: u56 :: u57 :: u58 :: u59 :: u60 :: u61 :: u62 :: u63 :: u64 :: u65 :: u66 :: u67 :: u68 :: u69 :: u70 :: u71 :: u72 :: u73 :: u74 :: u75 :: u76 :: u77 :: u78 :: u79 :: u80 :: u81 :: u82 :: u83 :: u84 :: u85 :: u86 :: u87 :: u88 :: u89 :: u90 :: u91 :: u92 :: u93 :: u94 :: u95 :: u96 :: u97 :: u98 :: u99 :: u100 :: u101 :: u102 :: u103 :: u104 :: u105 :: u106 :: u107 :: u108 :: u109 :: u110 :: u111 :: u112 :: u113 :: u114 :: u115 :: u116 :: u117 :: u118 :: u119 :: u120 :: u121 :: u122 :: u123 :: u124 :: u125 :: u126 :: u127 :: u128 :: u129 :: u130 :: u131 :: u132 :: u133 :: u134 :: u135 :: u136 :: u137 :: u138 :: u139 :: u140 :: u141 :: u142 :: u143 :: u144 :: u145 :: u146 :: u147 :: u148 :: u149 :: u150 :: u151 :: u152 :: u153 :: u154 :: u155 :: []), []⟩ w0 := by
  conv => arg 2; whnf
  obtain ⟨⟨a0, a1, a14⟩, ⟨a2, a3, a4⟩, ⟨a5, a6, a7⟩, ⟨a8, a9, a10⟩, ⟨a11, a12, a13⟩⟩ := HA.out.cells
  obtain ⟨⟨b0, b1, b14⟩, ⟨b2, b3, b4⟩, ⟨b5, b6, b7⟩, ⟨b8, b9, b10⟩, ⟨b11, b12, b13⟩⟩ := HB.out.cells
  have q0 := HB.out.thawed 0; have q1 := HB.out.thawed 1; have q2 := HB.out.thawed 2; have q3 := HB.out.thawed 3; have q4 := HB.out.thawed 4; have q5 := HB.out.thawed 5; have q6 := HB.out.thawed 6; have q7 := HB.out.thawed 7; have q8 := HB.out.thawed 8; have q9 := HB.out.thawed 9; have q10 := HB.out.thawed 10; have q11 := HB.out.thawed 11; have q12 := HB.out.thawed 12; have q13 := HB.out.thawed 13; have q14 := HB.out.thawed 14
  clear HA HB
  go_wp2_with fail
  exact Hk.out _ _ rfl
end Go.Proofs.Ytkngadbeflepoaa
