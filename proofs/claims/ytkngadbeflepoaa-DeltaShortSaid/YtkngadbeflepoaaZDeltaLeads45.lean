/- Deltas: DeltaLeads, the comparison in a round. Condition: the machines may be told. -/
import Derived.Test.YtkngadbeflepoaaZDeltaLeads43
import Derived.Test.YtkngadbeflepoaaZDeltaLeads26
import Derived.Test.YtkngadbeflepoaaZDeltaLeads30
namespace Go.Proofs.Ytkngadbeflepoaa
open Go.RowKit
set_option maxRecDepth 100000 in
set_option maxHeartbeats 16000000 in
theorem lead_reg15 (w0 : World) (gy gs : Nat) (B : MacV) (X Y : Tr) {Q : Exit → Act → World → Prop}
    (hQ : ∀ c a d v w, Q (.panic c) (Act.put a d v) w → Q (.panic c) a w) (HI : Hid (TwoI w0 gy gs B B X Y)) (HA : Hid (MacBy B))
    (u0 u1 u2 u3 u4 u5 u6 u7 u8 u9 u10 u11 u12 u13 u14 u16 u17 u18 u22 u23 u24 u25 u26 u27 u28 u29 u30 u31 u32 u33 u34 u35 u36 u37 u38 u39 u40 u41 u42 u43 u44 u45 u46 u47 u48 u49 u50 u51 u52 u53 u54 u55 u56 u57 u58 u59 u60 u61 u62 u63 u64 u65 u66 u67 u68 u69 u70 u71 u72 u73 u74 u75 u76 u77 u78 u79 u80 u81 u82 u83 u84 u85 u86 u87 u88 u89 u90 u91 u92 u93 u94 u95 u96 u97 u98 u99 u100 u101 u102 u103 u104 u105 u106 u107 u108 u109 u110 u111 u112 u113 u114 u115 u116 u117 u118 u119 u120 u121 u122 u123 u124 u125 u126 u127 u128 u129 u130 u131 u132 u133 u134 u135 u136 u137 u138 u139 u140 u141 u142 u143 u144 u145 u146 u147 u148 u149 u150 u151 u152 u153 u154 u155 : Value)
    (Hk : Hid (∀ (s79 s80 s81 s82 s83 s84 s85 s86 s87 s88 s89 s90 : Value) (w2 : World), Below w0.heap.size w0 w2 → Q .normal ⟨List.toArray (u0 :: u1 :: u2 :: u3 :: u4 :: u5 :: u6 :: u7 :: u8 :: u9 :: u10 :: u11 :: u12 :: u13 :: u14 :: Value.pointer (some ⟨gs, 0, none⟩) :: u16 :: u17 :: u18 :: Value.int .i64 0 :: Value.pointer (some ⟨gy, 0, none⟩) :: Value.int .i64 0 :: u22 :: u23 :: u24 :: u25 :: u26 :: u27 :: u28 :: u29 :: u30 :: u31 :: u32 :: u33 :: u34 :: u35 :: u36 :: u37 :: u38 :: u39 :: u40 :: u41 :: u42 :: u43 :: u44 :: u45 :: u46 :: u47 :: u48 :: u49 :: u50 :: u51 :: u52 :: u53 :: u54 :: u55 :: u56 :: u57 :: u58 :: u59 :: u60 :: u61 :: u62 :: u63 :: u64 :: u65 :: u66 :: u67 :: u68 :: u69 :: u70 :: u71 :: u72 :: u73 :: u74 :: u75 :: u76 :: u77 :: u78 :: s79 :: s80 :: s81 :: s82 :: s83 :: s84 :: s85 :: s86 :: s87 :: s88 :: s89 :: s90 :: Value.bool false :: u92 :: u93 :: u94 :: u95 :: u96 :: u97 :: u98 :: u99 :: u100 :: u101 :: u102 :: u103 :: u104 :: u105 :: u106 :: u107 :: u108 :: u109 :: u110 :: u111 :: u112 :: u113 :: u114 :: u115 :: u116 :: u117 :: u118 :: u119 :: u120 :: u121 :: u122 :: u123 :: u124 :: u125 :: u126 :: u127 :: u128 :: u129 :: u130 :: u131 :: u132 :: u133 :: u134 :: u135 :: u136 :: u137 :: u138 :: u139 :: u140 :: u141 :: u142 :: u143 :: u144 :: u145 :: u146 :: u147 :: u148 :: u149 :: u150 :: u151 :: u152 :: u153 :: u154 :: u155 :: []), []⟩ w2)) :
    Code.wp Try.prog (findR 15 (Try.f9.body.getD .skip)) Q ⟨List.toArray (u0 :: u1 :: u2 :: u3 :: u4 :: u5 :: u6 :: u7 :: u8 :: u9 :: u10 :: u11 :: u12 :: u13 :: u14 :: Value.pointer (some ⟨gs, 0, none⟩) :: u16 :: u17 :: u18 :: Value.int .i64 0 :: Value.pointer (some ⟨gy, 0, none⟩) :: Value.int .i64 0 :: u22 :: u23 :: u24 :: u25 :: u26 :: u27 :: u28 :: u29 :: u30 :: u31 :: u32 :: u33 :: u34 :: u35 :: u36 :: u37 :: u38 :: u39 :: u40 :: u41 :: u42 :: u43 :: u44 :: u45 :: u46 :: u47 :: u48 :: u49 :: u50 :: u51 :: u52 :: u53 :: u54 :: u55 :: u56 :: u57 :: u58 :: u59 :: u60 :: u61 :: u62 :: u63 :: u64 :: u65 :: u66 :: u67 :: u68 :: u69 :: u70 :: u71 :: u72 :: u73 :: u74 :: u75 :: u76 :: u77 :: u78 :: u79 :: u80 :: u81 :: u82 :: u83 :: u84 :: u85 :: u86 :: u87 :: u88 :: u89 :: u90 :: u91 :: u92 :: u93 :: u94 :: u95 :: u96 :: u97 :: u98 :: u99 :: u100 :: u101 :: u102 :: u103 :: u104 :: u105 :: u106 :: u107 :: u108 :: u109 :: u110 :: u111 :: u112 :: u113 :: u114 :: u115 :: u116 :: u117 :: u118 :: u119 :: u120 :: u121 :: u122 :: u123 :: u124 :: u125 :: u126 :: u127 :: u128 :: u129 :: u130 :: u131 :: u132 :: u133 :: u134 :: u135 :: u136 :: u137 :: u138 :: u139 :: u140 :: u141 :: u142 :: u143 :: u144 :: u145 :: u146 :: u147 :: u148 :: u149 :: u150 :: u151 :: u152 :: u153 :: u154 :: u155 :: []), []⟩ w0 := by
  conv => arg 2; whnf
  have Hloc := Lib.hid (fun (y : World) (hy : KeptW w0 y) => HI.out.below (KeptW.bel hy))
  obtain ⟨VX, hVX⟩ : ∃ V, macV B X.ptr = V := ⟨_, rfl⟩
  obtain ⟨VY, hVY⟩ : ∃ V, macV B Y.ptr = V := ⟨_, rfl⟩
  obtain ⟨SB, hSB⟩ : ∃ S : ByteArray, (⟨(macB B).toArray⟩ : ByteArray) = S := ⟨_, rfl⟩
  have HB1 := Lib.hid (fun (y : World) (hy : KeptW w0 y) => (show Calls Try.prog 37 #[VX] y fun e w' => e = .returned (.string SB) ∧ Below y.heap.size y w' by
    have h := Hloc.out y hy
    rw [← hVX, ← hSB]
    exact mbytes_any B X HA.out y h.ta h.sa))
  have HB2 := Lib.hid (fun (y : World) (hy : KeptW w0 y) => (show Calls Try.prog 37 #[VY] y fun e w' => e = .returned (.string SB) ∧ Below y.heap.size y w' by
    have h := Hloc.out y hy
    rw [← hVY, ← hSB]
    exact mbytes_any B Y HA.out y h.tb h.sb))
  have HVX := Lib.hid hVX; clear hVX
  have HVY := Lib.hid hVY; clear hVY
  clear hSB
  refine (wpIn_wide (n := 1)).1 ?_
  refine RegJ.wpIn_region_plan (F := Fence.wide) (KeptW w0) (.step 0 0 (.step 1 0 (.step 2 0 (.step 3 0 (.step 4 0 (.step 5 0 (.step 6 0 (.step 7 0 (.step 9 0 (.step 8 1 (.step 10 1 (.step 11 0 (.step 12 0 .nil))))))))))))) (by kernel_rfl) (by kernel_rfl) (by kernel_rfl) hQ ⟨rfl, rfl, rfl, Nat.le_refl _, fun _ _ => rfl⟩ ?_
  dsimp only [RegJ.pickJ, List.getElem?_cons_zero, List.getElem?_cons_succ]
  change RegJ.Can _ _ _ _ _ _ _ _ w0.drew
  have hkd : KeptW w0 w0.drew := ⟨rfl, rfl, rfl, Nat.le_refl _, fun _ _ => rfl⟩
  generalize w0.drew = v1 at *
  iterate 7 (refine RegJ.reads ?_; intro K hK; go_simp; (first | refine ⟨_, fun _ _ => rfl, hK _ ?_⟩ | refine hK _ ?_); clear hK K)
  refine RegJ.reads ?_
  intro K hK
  go_simp
  refine ⟨VX, fun y hy => ?_, hK _ ?_⟩
  · rw [← HVX.out]
    unfold macV
    rw [mac_eta B X.ptr]
    obtain ⟨⟨m0, m1, m14⟩, ⟨m2, m3, m4⟩, ⟨m5, m6, m7⟩, ⟨m8, m9, m10⟩, ⟨m11, m12, m13⟩⟩ := (Hloc.out y hy).a.cells
    go_simp
  clear hK K
  refine RegJ.reads ?_
  intro K hK
  go_simp
  refine ⟨VY, fun y hy => ?_, hK _ ?_⟩
  · rw [← HVY.out]
    unfold macV
    rw [mac_eta B Y.ptr]
    obtain ⟨⟨m0, m1, m14⟩, ⟨m2, m3, m4⟩, ⟨m5, m6, m7⟩, ⟨m8, m9, m10⟩, ⟨m11, m12, m13⟩⟩ := (Hloc.out y hy).b.cells
    go_simp
  clear hK K
  refine RegJ.turns (fun _ => trivial) ?_
  intro K K0 hK hK0
  go_simp
  refine ⟨trivial, ?_⟩
  refine (callsIn_wide.2 (HB1.out v1 (hkd))).mono ?_
  rintro e v2 ⟨rfl, hb7⟩
  have v2k : KeptW w0 v2 := KeptW.mono hkd hb7
  refine hK _ _ _ (fun _ h => h) v2k ?_
  clear hK K hK0 K0
  refine RegJ.turns (fun _ => trivial) ?_
  intro K K0 hK hK0
  go_simp
  refine ⟨trivial, ?_⟩
  refine (callsIn_wide.2 (HB2.out v2 (v2k))).mono ?_
  rintro e v3 ⟨rfl, hb7⟩
  have v3k : KeptW w0 v3 := KeptW.mono v2k hb7
  refine hK _ _ _ (fun _ h => h) v3k ?_
  clear hK K hK0 K0
  iterate 2 (refine RegJ.reads ?_; intro K hK; go_simp; (first | refine ⟨_, fun _ _ => rfl, hK _ ?_⟩ | refine hK _ ?_); clear hK K)
  refine RegJ.nil ?_
  exact Hk.out _ _ _ _ _ _ _ _ _ _ _ _ _ (KeptW.bel v3k)
end Go.Proofs.Ytkngadbeflepoaa
namespace Go.Proofs.Ytkngadbeflepoaa
open Go.RowKit
def dwC : CmdV := ⟨0#8, 1#32, 2, ⟨#[107]⟩, ByteArray.empty, ⟨#[118]⟩, 0#8⟩
def dw0 : MacV := newM 7 3
def dw1 : MacV := (macDo dw0 dwC).m
theorem dw0_all : MacAll dw0 := by
  refine ⟨macFit_new 7 3, ?_, by decide +kernel⟩
  rw [(show dw0.sh = .nil by unfold dw0 newM; split <;> rfl)]
  trivial
theorem dw1_all : MacAll dw1 := macDo_all dw0_all dwC
theorem dw_sets : mayS 3 7 = true := by decide +kernel
theorem dw_same : dw0.all = dw1.all := by decide +kernel
theorem dw0_kv : dw0.sh.kv = [] := by decide +kernel
theorem dw1_kv : dw1.sh.kv = [(⟨#[107]⟩, ⟨#[118]⟩)] := by decide +kernel
theorem dw_diff1 : diffL dw0.sh.kv dw1.sh.kv = [cAdd (⟨#[107]⟩, ⟨#[118]⟩)] := by
  rw [dw0_kv, dw1_kv, diff_nil_cons, diff_nil_nil]
theorem dw_diff2 : diffL dw1.sh.kv dw1.sh.kv = [] := by
  rw [dw1_kv, diff_cons_cons, if_neg (by decide +kernel), if_neg (by decide +kernel), if_pos rfl, diff_nil_nil]
theorem dw_rest1 : restB dw0 dw1 = [3, 1, 1, 0, 0, 1, 1, 107, 1, 1, 118] := by
  unfold restB
  rw [dw_diff1]
  decide +kernel
theorem dw_rest2 : restB dw1 dw1 = [3, 0, 0] := by
  unfold restB
  rw [dw_diff2]
  decide +kernel
theorem dw_len1 : (diffM dw0 dw1).length = 27 := by
  rw [diffM_as, dw_rest1, List.length_append, List.length_append, leB_len, leB_len]
  decide
theorem dw_len2 : (diffM dw1 dw1).length = 19 := by
  rw [diffM_as, dw_rest2]
  simp [leB_len]
theorem dw_ext1 : ((⟨(diffM dw0 dw1).toArray⟩ : ByteArray).extract 16 (⟨(diffM dw0 dw1).toArray⟩ : ByteArray).size).toList = [3, 1, 1, 0, 0, 1, 1, 107, 1, 1, 118] := by
  rw [diffM_as, dw_rest1]
  decide +kernel
theorem dw_ext2 : ((⟨(diffM dw1 dw1).toArray⟩ : ByteArray).extract 16 (⟨(diffM dw1 dw1).toArray⟩ : ByteArray).size).toList = [3, 0, 0] := by
  rw [diffM_as, dw_rest2]
  decide +kernel
theorem dw_clash2 : (patchM dw1 (diffM dw0 dw1)).2 = 14 := by
  rw [diffM_as, dw_rest1]
  decide +kernel
theorem dw_clash : patchM dw1 (diffM dw0 dw1) = (macNone, 14) := Prod.ext (patch_err (by rw [dw_clash2]; decide)) dw_clash2
end Go.Proofs.Ytkngadbeflepoaa
namespace Go.Proofs.Ytkngadbeflepoaa
open Go.RowKit
set_option maxRecDepth 100000 in
set_option maxHeartbeats 16000000 in
theorem dw_reg3 (w0 : World) (g1 g2 : Nat) (A B : MacV) (X Y : Tr) {Q : Exit → Act → World → Prop}
    (HI : Hid (TwoI w0 g1 g2 A B X Y)) (HA : Hid (MacAll A ∧ MacAll B ∧ A.all = B.all))
    (u0 u2 u4 u5 u6 u7 u8 u9 u10 u11 u12 u13 u14 u15 u16 u17 u18 u19 u20 u21 u22 u23 u24 u25 u26 u27 u28 u29 u30 u31 u32 u33 u34 u35 u36 u37 u38 u39 u40 u41 u42 u43 u44 u45 u46 u47 u48 u49 u50 u51 u52 u53 u54 u55 u56 u57 u58 u59 u60 u61 u62 u63 u64 u65 u66 u67 u68 u69 u70 u71 u72 u73 u74 u75 u76 u77 u78 u79 u80 u81 u82 : Value)
    (Hk : Hid (∀ (s20 s21 s22 s23 : Value) (w2 : World), Below w0.heap.size w0 w2 → Q .normal ⟨List.toArray (u0 :: Value.pointer (some ⟨g1, 0, none⟩) :: u2 :: Value.pointer (some ⟨g2, 0, none⟩) :: Value.string ⟨(diffM A B).toArray⟩ :: Value.int .i64 0 :: u6 :: u7 :: u8 :: u9 :: u10 :: u11 :: u12 :: u13 :: u14 :: u15 :: u16 :: u17 :: u18 :: u19 :: s20 :: s21 :: s22 :: s23 :: Value.string ⟨(diffM A B).toArray⟩ :: Value.int .i64 0 :: u26 :: u27 :: u28 :: u29 :: u30 :: u31 :: u32 :: u33 :: u34 :: u35 :: u36 :: u37 :: u38 :: u39 :: u40 :: u41 :: u42 :: u43 :: u44 :: u45 :: u46 :: u47 :: u48 :: u49 :: u50 :: u51 :: u52 :: u53 :: u54 :: u55 :: u56 :: u57 :: u58 :: u59 :: u60 :: u61 :: u62 :: u63 :: u64 :: u65 :: u66 :: u67 :: u68 :: u69 :: u70 :: u71 :: u72 :: u73 :: u74 :: u75 :: u76 :: u77 :: u78 :: u79 :: u80 :: u81 :: u82 :: []), []⟩ w2)) :
    Code.wp Try.prog (findR 3 (Try.f47.body.getD .skip)) Q ⟨List.toArray (u0 :: Value.pointer (some ⟨g1, 0, none⟩) :: u2 :: Value.pointer (some ⟨g2, 0, none⟩) :: u4 :: u5 :: u6 :: u7 :: u8 :: u9 :: u10 :: u11 :: u12 :: u13 :: u14 :: u15 :: u16 :: u17 :: u18 :: u19 :: u20 :: u21 :: u22 :: u23 :: u24 :: u25 :: u26 :: u27 :: u28 :: u29 :: u30 :: u31 :: u32 :: u33 :: u34 :: u35 :: u36 :: u37 :: u38 :: u39 :: u40 :: u41 :: u42 :: u43 :: u44 :: u45 :: u46 :: u47 :: u48 :: u49 :: u50 :: u51 :: u52 :: u53 :: u54 :: u55 :: u56 :: u57 :: u58 :: u59 :: u60 :: u61 :: u62 :: u63 :: u64 :: u65 :: u66 :: u67 :: u68 :: u69 :: u70 :: u71 :: u72 :: u73 :: u74 :: u75 :: u76 :: u77 :: u78 :: u79 :: u80 :: u81 :: u82 :: []), []⟩ w0 := by
  conv => arg 2; whnf
  have hd := diff_calls HA.out.1 HA.out.2.1 HA.out.2.2 HI.out.ta HI.out.tb HI.out.sa HI.out.sb
  obtain ⟨PX, hPX⟩ : ∃ P, X.ptr = P := ⟨_, rfl⟩
  obtain ⟨PY, hPY⟩ : ∃ P, Y.ptr = P := ⟨_, rfl⟩
  obtain ⟨S, hS⟩ : ∃ S : ByteArray, (⟨(diffM A B).toArray⟩ : ByteArray) = S := ⟨_, rfl⟩
  rw [hS] at hd Hk
  rw [hPX, hPY] at hd
  unfold macV at hd
  rw [mac_eta A PX, mac_eta B PY] at hd
  have Hd := Lib.hid hd; clear hd hS
  obtain ⟨⟨a0, a1, a14⟩, ⟨a2, a3, a4⟩, ⟨a5, a6, a7⟩, ⟨a8, a9, a10⟩, ⟨a11, a12, a13⟩⟩ := HI.out.a.cells
  rw [hPX] at a14
  obtain ⟨⟨b0, b1, b14⟩, ⟨b2, b3, b4⟩, ⟨b5, b6, b7⟩, ⟨b8, b9, b10⟩, ⟨b11, b12, b13⟩⟩ := HI.out.b.cells
  rw [hPY] at b14
  clear hPX hPY HI
  go_wp2_with ((with_reducible refine Hd.out.mono ?_); rintro e w2 ⟨rfl, hb⟩; have Hb := Lib.hid hb; clear hb)
  exact Hk.out _ _ _ _ _ Hb.out
set_option maxRecDepth 100000 in
set_option maxHeartbeats 16000000 in
theorem dw_reg4 (w0 : World) (g1 : Nat) (A : MacV) (X : Tr) {Q : Exit → Act → World → Prop}
    (HI : Hid (OneI w0 g1 A X)) (HA : Hid (MacAll A))
    (u0 u1 u2 u4 u5 u6 u7 u8 u9 u10 u11 u12 u13 u14 u15 u16 u17 u18 u19 u20 u21 u22 u23 u24 u25 u26 u27 u28 u29 u30 u31 u32 u33 u34 u35 u36 u37 u38 u39 u40 u41 u42 u43 u44 u45 u46 u47 u48 u49 u50 u51 u52 u53 u54 u55 u56 u57 u58 u59 u60 u61 u62 u63 u64 u65 u66 u67 u68 u69 u70 u71 u72 u73 u74 u75 u76 u77 u78 u79 u80 u81 u82 : Value)
    (Hk : Hid (∀ (s26 s27 s28 s29 : Value) (w2 : World), Below w0.heap.size w0 w2 → Q .normal ⟨List.toArray (u0 :: u1 :: u2 :: Value.pointer (some ⟨g1, 0, none⟩) :: u4 :: u5 :: Value.string ⟨(diffM A A).toArray⟩ :: Value.int .i64 0 :: u8 :: u9 :: u10 :: u11 :: u12 :: u13 :: u14 :: u15 :: u16 :: u17 :: u18 :: u19 :: u20 :: u21 :: u22 :: u23 :: u24 :: u25 :: s26 :: s27 :: s28 :: s29 :: Value.string ⟨(diffM A A).toArray⟩ :: Value.int .i64 0 :: u32 :: u33 :: u34 :: u35 :: u36 :: u37 :: u38 :: u39 :: u40 :: u41 :: u42 :: u43 :: u44 :: u45 :: u46 :: u47 :: u48 :: u49 :: u50 :: u51 :: u52 :: u53 :: u54 :: u55 :: u56 :: u57 :: u58 :: u59 :: u60 :: u61 :: u62 :: u63 :: u64 :: u65 :: u66 :: u67 :: u68 :: u69 :: u70 :: u71 :: u72 :: u73 :: u74 :: u75 :: u76 :: u77 :: u78 :: u79 :: u80 :: u81 :: u82 :: []), []⟩ w2)) :
    Code.wp Try.prog (findR 4 (Try.f47.body.getD .skip)) Q ⟨List.toArray (u0 :: u1 :: u2 :: Value.pointer (some ⟨g1, 0, none⟩) :: u4 :: u5 :: u6 :: u7 :: u8 :: u9 :: u10 :: u11 :: u12 :: u13 :: u14 :: u15 :: u16 :: u17 :: u18 :: u19 :: u20 :: u21 :: u22 :: u23 :: u24 :: u25 :: u26 :: u27 :: u28 :: u29 :: u30 :: u31 :: u32 :: u33 :: u34 :: u35 :: u36 :: u37 :: u38 :: u39 :: u40 :: u41 :: u42 :: u43 :: u44 :: u45 :: u46 :: u47 :: u48 :: u49 :: u50 :: u51 :: u52 :: u53 :: u54 :: u55 :: u56 :: u57 :: u58 :: u59 :: u60 :: u61 :: u62 :: u63 :: u64 :: u65 :: u66 :: u67 :: u68 :: u69 :: u70 :: u71 :: u72 :: u73 :: u74 :: u75 :: u76 :: u77 :: u78 :: u79 :: u80 :: u81 :: u82 :: []), []⟩ w0 := by
  conv => arg 2; whnf
  have hd := diff_calls HA.out HA.out rfl HI.out.t HI.out.t HI.out.s HI.out.s
  obtain ⟨PX, hPX⟩ : ∃ P, X.ptr = P := ⟨_, rfl⟩
  obtain ⟨S, hS⟩ : ∃ S : ByteArray, (⟨(diffM A A).toArray⟩ : ByteArray) = S := ⟨_, rfl⟩
  rw [hS] at hd Hk
  rw [hPX] at hd
  unfold macV at hd
  rw [mac_eta A PX] at hd
  have Hd := Lib.hid hd; clear hd hS
  obtain ⟨⟨a0, a1, a14⟩, ⟨a2, a3, a4⟩, ⟨a5, a6, a7⟩, ⟨a8, a9, a10⟩, ⟨a11, a12, a13⟩⟩ := HI.out.a.cells
  rw [hPX] at a14
  clear hPX HI
  go_wp2_with ((with_reducible refine Hd.out.mono ?_); rintro e w2 ⟨rfl, hb⟩; have Hb := Lib.hid hb; clear hb)
  exact Hk.out _ _ _ _ _ Hb.out
end Go.Proofs.Ytkngadbeflepoaa
namespace Go.Proofs.Ytkngadbeflepoaa
open Go.RowKit
set_option maxRecDepth 100000 in
set_option maxHeartbeats 16000000 in
theorem dw_reg7 (w0 : World) (g1 : Nat) (A B : MacV) (X : Tr) {Q : Exit → Act → World → Prop}
    (HI : Hid (OneI w0 g1 A X)) (HA : Hid (MacAll A ∧ MacAll B ∧ A.all = B.all))
    (u0 u2 u3 u5 u6 u7 u8 u9 u10 u11 u12 u13 u14 u15 u16 u17 u18 u19 u20 u21 u22 u23 u24 u25 u26 u27 u28 u29 u30 u31 u32 u33 u34 u35 u36 u37 u38 u39 u40 u41 u42 u43 u44 u45 u46 u47 u48 u49 u50 u51 u52 u53 u54 u55 u56 u57 u58 u59 u60 u61 u62 u63 u64 u65 u66 u67 u68 u69 u70 u71 u72 u73 u74 u75 u76 u77 u78 u79 u80 u81 u82 : Value)
    (Hk : Hid (∀ (s48 s49 s50 s51 s52 s53 : Value) (gy : Nat) (Z : Tr) (w2 : World), OneI w2 gy B Z ∧ Below w0.heap.size w0 w2 ∧ w0.heap.size ≤ gy → Q .normal ⟨List.toArray (u0 :: Value.pointer (some ⟨g1, 0, none⟩) :: u2 :: u3 :: Value.string ⟨(diffM A B).toArray⟩ :: u5 :: u6 :: u7 :: Value.pointer (some ⟨gy, 0, none⟩) :: Value.int .i64 0 :: u10 :: u11 :: u12 :: u13 :: u14 :: u15 :: u16 :: u17 :: u18 :: u19 :: u20 :: u21 :: u22 :: u23 :: u24 :: u25 :: u26 :: u27 :: u28 :: u29 :: u30 :: u31 :: u32 :: u33 :: u34 :: u35 :: u36 :: u37 :: u38 :: u39 :: u40 :: u41 :: u42 :: u43 :: u44 :: u45 :: u46 :: u47 :: s48 :: s49 :: s50 :: s51 :: s52 :: s53 :: u54 :: u55 :: u56 :: u57 :: u58 :: u59 :: u60 :: u61 :: u62 :: u63 :: u64 :: u65 :: u66 :: u67 :: u68 :: u69 :: u70 :: u71 :: u72 :: u73 :: u74 :: u75 :: u76 :: u77 :: u78 :: u79 :: u80 :: u81 :: u82 :: []), []⟩ w2)) :
    Code.wp Try.prog (findR 7 (Try.f47.body.getD .skip)) Q ⟨List.toArray (u0 :: Value.pointer (some ⟨g1, 0, none⟩) :: u2 :: u3 :: Value.string ⟨(diffM A B).toArray⟩ :: u5 :: u6 :: u7 :: u8 :: u9 :: u10 :: u11 :: u12 :: u13 :: u14 :: u15 :: u16 :: u17 :: u18 :: u19 :: u20 :: u21 :: u22 :: u23 :: u24 :: u25 :: u26 :: u27 :: u28 :: u29 :: u30 :: u31 :: u32 :: u33 :: u34 :: u35 :: u36 :: u37 :: u38 :: u39 :: u40 :: u41 :: u42 :: u43 :: u44 :: u45 :: u46 :: u47 :: u48 :: u49 :: u50 :: u51 :: u52 :: u53 :: u54 :: u55 :: u56 :: u57 :: u58 :: u59 :: u60 :: u61 :: u62 :: u63 :: u64 :: u65 :: u66 :: u67 :: u68 :: u69 :: u70 :: u71 :: u72 :: u73 :: u74 :: u75 :: u76 :: u77 :: u78 :: u79 :: u80 :: u81 :: u82 :: []), []⟩ w0 := by
  conv => arg 2; whnf
  have hd := patch_calls HA.out.1 HA.out.2.1 HA.out.2.2 HI.out.t HI.out.s
  obtain ⟨PX, hPX⟩ : ∃ P, X.ptr = P := ⟨_, rfl⟩
  obtain ⟨S, hS⟩ : ∃ S : ByteArray, (⟨(diffM A B).toArray⟩ : ByteArray) = S := ⟨_, rfl⟩
  rw [hS] at hd Hk ⊢
  rw [hPX] at hd
  unfold macV at hd
  rw [mac_eta A PX] at hd
  have Hd := Lib.hid hd; clear hd hS
  obtain ⟨⟨a0, a1, a14⟩, ⟨a2, a3, a4⟩, ⟨a5, a6, a7⟩, ⟨a8, a9, a10⟩, ⟨a11, a12, a13⟩⟩ := HI.out.a.cells
  rw [hPX] at a14
  clear hPX HI
  go_wp2_with ((with_reducible refine Hd.out.mono ?_); rintro e w2 ⟨Z, rfl, hZ, hZs, hb⟩; have HZ := Lib.hid (And.intro hZ (And.intro hZs hb)); clear hZ hZs hb; rw [mac_eta B Z.ptr])
  change Q _ _ (w2.alloc (.cells (macCells B Z.ptr).toArray 69))
  have hba := (Below.refl w2.heap.size w2).alloc (Nat.le_refl _) (.cells (macCells B Z.ptr).toArray 69)
  exact Hk.out _ _ _ _ _ _ _ Z _ ⟨⟨heap_alloc_new _ _, HZ.out.1.below hba, HZ.out.2.1⟩, HZ.out.2.2.trans (hba.mono HZ.out.2.2.size), HZ.out.2.2.size⟩
set_option maxRecDepth 100000 in
set_option maxHeartbeats 16000000 in
theorem dw_reg8 (w0 : World) (g1 : Nat) (A : MacV) (X : Tr) (s : ByteArray) (code : Nat) {Q : Exit → Act → World → Prop}
    (HI : Hid (OneI w0 g1 A X)) (HA : Hid (MacAll A ∧ s.data.toList.length ≤ maxLen ∧ patchM A s.data.toList = (macNone, code)))
    (u0 u1 u2 u5 u6 u7 u8 u9 u10 u11 u12 u13 u14 u15 u16 u17 u18 u19 u20 u21 u22 u23 u24 u25 u26 u27 u28 u29 u30 u31 u32 u33 u34 u35 u36 u37 u38 u39 u40 u41 u42 u43 u44 u45 u46 u47 u48 u49 u50 u51 u52 u53 u54 u55 u56 u57 u58 u59 u60 u61 u62 u63 u64 u65 u66 u67 u68 u69 u70 u71 u72 u73 u74 u75 u76 u77 u78 u79 u80 u81 u82 : Value)
    (Hk : Hid (∀ (s54 s55 s56 s57 s58 s59 : Value) (gy : Nat) (w2 : World), MacAt w2 gy macNone none ∧ Below w0.heap.size w0 w2 ∧ w0.heap.size ≤ gy → Q .normal ⟨List.toArray (u0 :: u1 :: u2 :: Value.pointer (some ⟨g1, 0, none⟩) :: Value.string s :: u5 :: u6 :: u7 :: u8 :: u9 :: Value.pointer (some ⟨gy, 0, none⟩) :: Value.int .i64 (code : Int) :: u12 :: u13 :: u14 :: u15 :: u16 :: u17 :: u18 :: u19 :: u20 :: u21 :: u22 :: u23 :: u24 :: u25 :: u26 :: u27 :: u28 :: u29 :: u30 :: u31 :: u32 :: u33 :: u34 :: u35 :: u36 :: u37 :: u38 :: u39 :: u40 :: u41 :: u42 :: u43 :: u44 :: u45 :: u46 :: u47 :: u48 :: u49 :: u50 :: u51 :: u52 :: u53 :: s54 :: s55 :: s56 :: s57 :: s58 :: s59 :: u60 :: u61 :: u62 :: u63 :: u64 :: u65 :: u66 :: u67 :: u68 :: u69 :: u70 :: u71 :: u72 :: u73 :: u74 :: u75 :: u76 :: u77 :: u78 :: u79 :: u80 :: u81 :: u82 :: []), []⟩ w2)) :
    Code.wp Try.prog (findR 8 (Try.f47.body.getD .skip)) Q ⟨List.toArray (u0 :: u1 :: u2 :: Value.pointer (some ⟨g1, 0, none⟩) :: Value.string s :: u5 :: u6 :: u7 :: u8 :: u9 :: u10 :: u11 :: u12 :: u13 :: u14 :: u15 :: u16 :: u17 :: u18 :: u19 :: u20 :: u21 :: u22 :: u23 :: u24 :: u25 :: u26 :: u27 :: u28 :: u29 :: u30 :: u31 :: u32 :: u33 :: u34 :: u35 :: u36 :: u37 :: u38 :: u39 :: u40 :: u41 :: u42 :: u43 :: u44 :: u45 :: u46 :: u47 :: u48 :: u49 :: u50 :: u51 :: u52 :: u53 :: u54 :: u55 :: u56 :: u57 :: u58 :: u59 :: u60 :: u61 :: u62 :: u63 :: u64 :: u65 :: u66 :: u67 :: u68 :: u69 :: u70 :: u71 :: u72 :: u73 :: u74 :: u75 :: u76 :: u77 :: u78 :: u79 :: u80 :: u81 :: u82 :: []), []⟩ w0 := by
  conv => arg 2; whnf
  have hd := patch_none HA.out.1 HA.out.2.1 HA.out.2.2 HI.out.t HI.out.s
  obtain ⟨PX, hPX⟩ : ∃ P, X.ptr = P := ⟨_, rfl⟩
  rw [hPX] at hd
  unfold macV at hd
  rw [mac_eta A PX] at hd
  have Hd := Lib.hid hd; clear hd
  obtain ⟨⟨a0, a1, a14⟩, ⟨a2, a3, a4⟩, ⟨a5, a6, a7⟩, ⟨a8, a9, a10⟩, ⟨a11, a12, a13⟩⟩ := HI.out.a.cells
  rw [hPX] at a14
  clear hPX HI
  go_wp2_with ((with_reducible refine Hd.out.mono ?_); rintro e w2 ⟨rfl, hb⟩; have Hb := Lib.hid hb; clear hb; rw [mac_eta macNone none])
  change Q _ _ (w2.alloc (.cells (macCells macNone none).toArray 69))
  have hba := (Below.refl w2.heap.size w2).alloc (Nat.le_refl _) (.cells (macCells macNone none).toArray 69)
  exact Hk.out _ _ _ _ _ _ _ _ ⟨heap_alloc_new _ _, Hb.out.trans (hba.mono Hb.out.size), Hb.out.size⟩
end Go.Proofs.Ytkngadbeflepoaa
namespace Go.Proofs.Ytkngadbeflepoaa
open Go.RowKit
set_option maxRecDepth 100000 in
set_option maxHeartbeats 16000000 in
theorem dw_reg9 (w0 : World) (gz gn : Nat) (B : MacV) (X Y : Tr) (S1 S2 : ByteArray) {Q : Exit → Act → World → Prop}
    (hQ : ∀ c a d v w, Q (.panic c) (Act.put a d v) w → Q (.panic c) a w) (HI : Hid (TwoI w0 gz gn B B X Y)) (HA : Hid (MacBy B)) (hz1 : (S1.size : Int) = 27) (hz2 : (S2.size : Int) = 19) (hx1 : (S1.extract 16 S1.size).toList = [3, 1, 1, 0, 0, 1, 1, 107, 1, 1, 118]) (hx2 : (S2.extract 16 S2.size).toList = [3, 0, 0])
    (u0 u1 u2 u5 u7 u10 u12 u13 u14 u15 u16 u17 u18 u19 u20 u21 u22 u23 u24 u25 u26 u27 u28 u29 u30 u31 u32 u33 u34 u35 u36 u37 u38 u39 u40 u41 u42 u43 u44 u45 u46 u47 u48 u49 u50 u51 u52 u53 u54 u55 u56 u57 u58 u59 u60 u61 u62 u63 u64 u65 u66 u67 u68 u69 u70 u71 u72 u73 u74 u75 u76 u77 u78 u79 u80 u81 u82 : Value)
    (Hk : Hid (∀ (s60 s61 s62 s63 s64 s65 s66 s67 s68 s69 s70 s71 s72 s73 s74 s75 s76 s77 s78 s79 s80 s81 : Value) (w2 : World), Below w0.heap.size w0 w2 → Q .normal ⟨List.toArray (Value.bool true :: u1 :: u2 :: Value.pointer (some ⟨gn, 0, none⟩) :: Value.string S1 :: u5 :: Value.string S2 :: u7 :: Value.pointer (some ⟨gz, 0, none⟩) :: Value.int .i64 0 :: u10 :: Value.int .i64 14 :: u12 :: u13 :: u14 :: u15 :: u16 :: u17 :: u18 :: u19 :: u20 :: u21 :: u22 :: u23 :: u24 :: u25 :: u26 :: u27 :: u28 :: u29 :: u30 :: u31 :: u32 :: u33 :: u34 :: u35 :: u36 :: u37 :: u38 :: u39 :: u40 :: u41 :: u42 :: u43 :: u44 :: u45 :: u46 :: u47 :: u48 :: u49 :: u50 :: u51 :: u52 :: u53 :: u54 :: u55 :: u56 :: u57 :: u58 :: u59 :: s60 :: s61 :: s62 :: s63 :: s64 :: s65 :: s66 :: s67 :: s68 :: s69 :: s70 :: s71 :: s72 :: s73 :: s74 :: s75 :: s76 :: s77 :: s78 :: s79 :: s80 :: s81 :: Value.bool true :: []), []⟩ w2)) :
    Code.wp Try.prog (findR 9 (Try.f47.body.getD .skip)) Q ⟨List.toArray (u0 :: u1 :: u2 :: Value.pointer (some ⟨gn, 0, none⟩) :: Value.string S1 :: u5 :: Value.string S2 :: u7 :: Value.pointer (some ⟨gz, 0, none⟩) :: Value.int .i64 0 :: u10 :: Value.int .i64 14 :: u12 :: u13 :: u14 :: u15 :: u16 :: u17 :: u18 :: u19 :: u20 :: u21 :: u22 :: u23 :: u24 :: u25 :: u26 :: u27 :: u28 :: u29 :: u30 :: u31 :: u32 :: u33 :: u34 :: u35 :: u36 :: u37 :: u38 :: u39 :: u40 :: u41 :: u42 :: u43 :: u44 :: u45 :: u46 :: u47 :: u48 :: u49 :: u50 :: u51 :: u52 :: u53 :: u54 :: u55 :: u56 :: u57 :: u58 :: u59 :: u60 :: u61 :: u62 :: u63 :: u64 :: u65 :: u66 :: u67 :: u68 :: u69 :: u70 :: u71 :: u72 :: u73 :: u74 :: u75 :: u76 :: u77 :: u78 :: u79 :: u80 :: u81 :: u82 :: []), []⟩ w0 := by
  conv => arg 2; whnf
  have Hloc := Lib.hid (fun (y : World) (hy : KeptW w0 y) => HI.out.below (KeptW.bel hy))
  obtain ⟨VX, hVX⟩ : ∃ V, macV B X.ptr = V := ⟨_, rfl⟩
  obtain ⟨VY, hVY⟩ : ∃ V, macV B Y.ptr = V := ⟨_, rfl⟩
  obtain ⟨SB, hSB⟩ : ∃ S : ByteArray, (⟨(macB B).toArray⟩ : ByteArray) = S := ⟨_, rfl⟩
  have HB1 := Lib.hid (fun (y : World) (hy : KeptW w0 y) => (show Calls Try.prog 37 #[VX] y fun e w' => e = .returned (.string SB) ∧ Below y.heap.size y w' by
    have h := Hloc.out y hy
    rw [← hVX, ← hSB]
    exact mbytes_any B X HA.out y h.ta h.sa))
  have HB2 := Lib.hid (fun (y : World) (hy : KeptW w0 y) => (show Calls Try.prog 37 #[VY] y fun e w' => e = .returned (.string SB) ∧ Below y.heap.size y w' by
    have h := Hloc.out y hy
    rw [← hVY, ← hSB]
    exact mbytes_any B Y HA.out y h.tb h.sb))
  have HVX := Lib.hid hVX; clear hVX
  have HVY := Lib.hid hVY; clear hVY
  clear hSB
  refine (wpIn_wide (n := 1)).1 ?_
  refine RegJ.wpIn_region_plan (F := Fence.wide) (KeptW w0) (.step 0 0 (.step 1 0 (.step 2 0 (.step 3 0 (.step 4 0 (.step 5 0 (.step 6 0 (.step 7 0 (.step 8 0 (.step 9 0 (.step 10 0 (.step 11 0 (.step 12 0 (.step 13 0 (.step 15 0 (.step 14 1 (.step 16 1 (.step 17 0 (.step 18 0 (.step 19 0 (.step 20 0 (.step 21 0 (.step 22 0 (.step 23 0 .nil)))))))))))))))))))))))) (by kernel_rfl) (by kernel_rfl) (by kernel_rfl) hQ ⟨rfl, rfl, rfl, Nat.le_refl _, fun _ _ => rfl⟩ ?_
  dsimp only [RegJ.pickJ, List.getElem?_cons_zero, List.getElem?_cons_succ]
  change RegJ.Can _ _ _ _ _ _ _ _ w0.drew
  have hkd : KeptW w0 w0.drew := ⟨rfl, rfl, rfl, Nat.le_refl _, fun _ _ => rfl⟩
  generalize w0.drew = v1 at *
  iterate 13 (refine RegJ.reads ?_; intro K hK; go_simp; (first | refine ⟨_, fun _ _ => rfl, hK _ ?_⟩ | refine hK _ ?_); clear hK K)
  refine RegJ.reads ?_
  intro K hK
  go_simp
  refine ⟨VX, fun y hy => ?_, hK _ ?_⟩
  · rw [← HVX.out]
    unfold macV
    rw [mac_eta B X.ptr]
    obtain ⟨⟨m0, m1, m14⟩, ⟨m2, m3, m4⟩, ⟨m5, m6, m7⟩, ⟨m8, m9, m10⟩, ⟨m11, m12, m13⟩⟩ := (Hloc.out y hy).a.cells
    go_simp
  clear hK K
  refine RegJ.reads ?_
  intro K hK
  go_simp
  refine ⟨VY, fun y hy => ?_, hK _ ?_⟩
  · rw [← HVY.out]
    unfold macV
    rw [mac_eta B Y.ptr]
    obtain ⟨⟨m0, m1, m14⟩, ⟨m2, m3, m4⟩, ⟨m5, m6, m7⟩, ⟨m8, m9, m10⟩, ⟨m11, m12, m13⟩⟩ := (Hloc.out y hy).b.cells
    go_simp
  clear hK K
  refine RegJ.turns (fun _ => trivial) ?_
  intro K K0 hK hK0
  go_simp
  refine ⟨trivial, ?_⟩
  refine (callsIn_wide.2 (HB1.out v1 (hkd))).mono ?_
  rintro e v2 ⟨rfl, hb7⟩
  have v2k : KeptW w0 v2 := KeptW.mono hkd hb7
  refine hK _ _ _ (fun _ h => h) v2k ?_
  clear hK K hK0 K0
  refine RegJ.turns (fun _ => trivial) ?_
  intro K K0 hK hK0
  go_simp
  refine ⟨trivial, ?_⟩
  refine (callsIn_wide.2 (HB2.out v2 (v2k))).mono ?_
  rintro e v3 ⟨rfl, hb7⟩
  have v3k : KeptW w0 v3 := KeptW.mono v2k hb7
  refine hK _ _ _ (fun _ h => h) v3k ?_
  clear hK K hK0 K0
  iterate 7 (refine RegJ.reads ?_; intro K hK; go_simp; (first | refine ⟨_, fun _ _ => rfl, hK _ ?_⟩ | refine hK _ ?_); clear hK K)
  refine RegJ.nil ?_
  exact Hk.out _ _ _ _ _ _ _ _ _ _ _ _ _ _ _ _ _ _ _ _ _ _ _ (KeptW.bel v3k)
end Go.Proofs.Ytkngadbeflepoaa
