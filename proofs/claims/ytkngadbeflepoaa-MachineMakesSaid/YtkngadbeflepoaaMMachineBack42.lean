/- Machines: MachineBack, the comparison of what was read back. No condition. -/
import Derived.Test.YtkngadbeflepoaaMMachineBack19
import Derived.Test.YtkngadbeflepoaaMMachineBack41
import Derived.Test.YtkngadbeflepoaaMMachineBack34
import Derived.Test.YtkngadbeflepoaaMMachineBack35
import Derived.Test.YtkngadbeflepoaaMMachineBack18
import Derived.Deep.DeepCutAuto
namespace Go.Proofs.Ytkngadbeflepoaa
open Go.RowKit

set_option maxRecDepth 100000 in
set_option maxHeartbeats 16000000 in
theorem back_reg8 (wS w0 : World) (gs gt gx : Nat) (A B : MacV) (X Y Z : Tr) {Q : Exit → Act → World → Prop}
    (hQ : ∀ c a d v w, Q (.panic c) (Act.put a d v) w → Q (.panic c) a w) (HI : Hid (BackI wS w0 gs gt A B X Y)) (HX : Hid (MacAt w0 gx A Z.ptr ∧ TreeAt w0 Z ∧ Z.sh = A.sh)) (HA : Hid (MacAll A ∧ MacAll B))
    (u0 u1 u2 u3 u4 u5 u6 u7 u8 u13 u14 u15 u16 u17 u18 u19 u20 u21 u22 u23 u24 u25 u26 u27 u28 u29 u30 u31 u32 u33 u34 u35 u36 u37 u38 u39 u40 u41 u42 u43 u44 u45 u46 u47 u48 u49 u50 u51 u52 u53 u54 u55 u56 u57 u58 u59 u60 u61 u62 u63 u64 u65 u66 u67 u68 u69 u70 u71 u72 u73 u74 u75 u76 u77 u78 u79 u80 u81 u82 u83 u84 u85 u86 u87 u88 u89 u90 u91 : Value)
    (Hk : Hid (∀ (s45 s46 s47 s48 s49 s50 s51 s52 s53 s54 s55 s56 s57 s58 s59 s60 s61 s62 : Value) (w2 : World), Below w0.heap.size w0 w2 → Q .normal ⟨List.toArray (u0 :: u1 :: u2 :: u3 :: u4 :: u5 :: u6 :: u7 :: u8 :: Value.pointer (some ⟨gs, 0, none⟩) :: Value.pointer (some ⟨gt, 0, none⟩) :: Value.pointer (some ⟨gx, 0, none⟩) :: Value.int .i64 0 :: u13 :: u14 :: u15 :: u16 :: u17 :: u18 :: u19 :: u20 :: u21 :: u22 :: u23 :: u24 :: u25 :: u26 :: u27 :: u28 :: u29 :: u30 :: u31 :: u32 :: u33 :: u34 :: u35 :: u36 :: u37 :: u38 :: u39 :: u40 :: u41 :: u42 :: u43 :: u44 :: s45 :: s46 :: s47 :: s48 :: s49 :: s50 :: s51 :: s52 :: s53 :: s54 :: s55 :: s56 :: s57 :: s58 :: s59 :: s60 :: s61 :: s62 :: Value.bool false :: u64 :: u65 :: u66 :: u67 :: u68 :: u69 :: u70 :: u71 :: u72 :: u73 :: u74 :: u75 :: u76 :: u77 :: u78 :: u79 :: u80 :: u81 :: u82 :: u83 :: u84 :: u85 :: u86 :: u87 :: u88 :: u89 :: u90 :: u91 :: []), []⟩ w2)) :
    Code.wp Try.prog (findR 8 (Try.f7.body.getD .skip)) Q ⟨List.toArray (u0 :: u1 :: u2 :: u3 :: u4 :: u5 :: u6 :: u7 :: u8 :: Value.pointer (some ⟨gs, 0, none⟩) :: Value.pointer (some ⟨gt, 0, none⟩) :: Value.pointer (some ⟨gx, 0, none⟩) :: Value.int .i64 0 :: u13 :: u14 :: u15 :: u16 :: u17 :: u18 :: u19 :: u20 :: u21 :: u22 :: u23 :: u24 :: u25 :: u26 :: u27 :: u28 :: u29 :: u30 :: u31 :: u32 :: u33 :: u34 :: u35 :: u36 :: u37 :: u38 :: u39 :: u40 :: u41 :: u42 :: u43 :: u44 :: u45 :: u46 :: u47 :: u48 :: u49 :: u50 :: u51 :: u52 :: u53 :: u54 :: u55 :: u56 :: u57 :: u58 :: u59 :: u60 :: u61 :: u62 :: u63 :: u64 :: u65 :: u66 :: u67 :: u68 :: u69 :: u70 :: u71 :: u72 :: u73 :: u74 :: u75 :: u76 :: u77 :: u78 :: u79 :: u80 :: u81 :: u82 :: u83 :: u84 :: u85 :: u86 :: u87 :: u88 :: u89 :: u90 :: u91 :: []), []⟩ w0 := by
  conv => arg 2; whnf
  have Hloc := Lib.hid (fun (y : World) (hy : KeptW w0 y) => HI.out.below (KeptW.bel hy))
  have Hlx := Lib.hid (fun (y : World) (hy : KeptW w0 y) => (show MacAt y gx A Z.ptr ∧ TreeAt y Z from ⟨HX.out.1.below (KeptW.bel hy), HX.out.2.1.below (KeptW.bel hy)⟩))
  obtain ⟨sb, hsb⟩ : ∃ b, macSame A B = b := ⟨_, rfl⟩
  have hbs := bytes_same HA.out.1 HA.out.2
  rw [hsb] at hbs
  have hns : ∀ M : MacV, MacAll M → M.sh.cnt ≤ 1000000 := fun M h => by have := h.fit.kv.num; omega
  have hcA := hns A HA.out.1
  have hcB := hns B HA.out.2
  obtain ⟨VA, hVA⟩ : ∃ V, macV A X.ptr = V := ⟨_, rfl⟩
  obtain ⟨VB, hVB⟩ : ∃ V, macV B Y.ptr = V := ⟨_, rfl⟩
  obtain ⟨VX, hVX⟩ : ∃ V, macV A Z.ptr = V := ⟨_, rfl⟩
  obtain ⟨SA, hSA⟩ : ∃ S : ByteArray, (⟨(macB A).toArray⟩ : ByteArray) = S := ⟨_, rfl⟩
  obtain ⟨SB, hSB⟩ : ∃ S : ByteArray, (⟨(macB B).toArray⟩ : ByteArray) = S := ⟨_, rfl⟩
  rw [hSA, hSB] at hbs
  have HS1 := Lib.hid (fun (y : World) (hy : KeptW w0 y) => (show Calls Try.prog 33 #[VX, VA] y fun e w' => e = .returned (.bool true) ∧ Below y.heap.size y w' by
    have h := Hloc.out y hy
    have k := same2_any A A Z X y (Hlx.out y hy).2 h.ta HX.out.2.2 h.sa (by rw [HX.out.2.2]; exact HA.out.1.fit.kv.asc) (by rw [h.sa]; exact HA.out.1.fit.kv.asc) (by rw [sh_cnt, HX.out.2.2]; exact hcA) (by rw [sh_cnt, h.sa]; exact hcA)
    rw [(macSame_iff HA.out.1.heap HA.out.1.heap).2 rfl] at k
    rw [← hVX, ← hVA]
    exact k))
  have HS2 := Lib.hid (fun (y : World) (hy : KeptW w0 y) => (show Calls Try.prog 33 #[VA, VB] y fun e w' => e = .returned (.bool sb) ∧ Below y.heap.size y w' by
    have h := Hloc.out y hy
    have k := same2_any A B X Y y h.ta h.tb h.sa h.sb (by rw [h.sa]; exact HA.out.1.fit.kv.asc) (by rw [h.sb]; exact HA.out.2.fit.kv.asc) (by rw [sh_cnt, h.sa]; exact hcA) (by rw [sh_cnt, h.sb]; exact hcB)
    rw [hsb] at k
    rw [← hVA, ← hVB]
    exact k))
  have HB1 := Lib.hid (fun (y : World) (hy : KeptW w0 y) => (show Calls Try.prog 37 #[VA] y fun e w' => e = .returned (.string SA) ∧ Below y.heap.size y w' by
    have h := Hloc.out y hy
    rw [← hVA, ← hSA]
    exact mbytes_any A X (macFit_by HA.out.1.fit) y h.ta h.sa))
  have HB2 := Lib.hid (fun (y : World) (hy : KeptW w0 y) => (show Calls Try.prog 37 #[VB] y fun e w' => e = .returned (.string SB) ∧ Below y.heap.size y w' by
    have h := Hloc.out y hy
    rw [← hVB, ← hSB]
    exact mbytes_any B Y (macFit_by HA.out.2.fit) y h.tb h.sb))
  have HVA := Lib.hid hVA; clear hVA
  have HVB := Lib.hid hVB; clear hVB
  have HVX := Lib.hid hVX; clear hVX
  clear hSA hSB hsb hns hcA hcB
  refine (wpIn_wide (n := 1)).1 ?_
  refine RegJ.wpIn_region_plan (F := Fence.wide) (KeptW w0) (.step 0 0 (.step 1 0 (.step 2 0 (.step 3 0 (.step 4 0 (.step 5 1 (.step 6 0 (.step 7 0 (.step 8 0 (.step 9 0 (.step 11 0 (.step 14 0 (.step 15 0 (.step 10 1 (.step 12 1 (.step 13 0 (.step 16 1 (.step 17 0 (.step 18 0 .nil))))))))))))))))))) (by kernel_rfl) (by kernel_rfl) (by kernel_rfl) hQ ⟨rfl, rfl, rfl, Nat.le_refl _, fun _ _ => rfl⟩ ?_
  dsimp only [RegJ.pickJ, List.getElem?_cons_zero, List.getElem?_cons_succ]
  change RegJ.Can _ _ _ _ _ _ _ _ w0.drew
  have hkd : KeptW w0 w0.drew := ⟨rfl, rfl, rfl, Nat.le_refl _, fun _ _ => rfl⟩
  generalize w0.drew = v1 at *
  iterate 3 (refine RegJ.reads ?_; intro K hK; go_simp; (first | refine ⟨_, fun _ _ => rfl, hK _ ?_⟩ | refine hK _ ?_); clear hK K)
  refine RegJ.reads ?_
  intro K hK
  go_simp
  refine ⟨VX, fun y hy => ?_, hK _ ?_⟩
  · rw [← HVX.out]
    unfold macV
    rw [mac_eta A Z.ptr]
    obtain ⟨⟨m0, m1, m14⟩, ⟨m2, m3, m4⟩, ⟨m5, m6, m7⟩, ⟨m8, m9, m10⟩, ⟨m11, m12, m13⟩⟩ := (Hlx.out y hy).1.cells
    go_simp
  clear hK K
  refine RegJ.reads ?_
  intro K hK
  go_simp
  refine ⟨VA, fun y hy => ?_, hK _ ?_⟩
  · rw [← HVA.out]
    unfold macV
    rw [mac_eta A X.ptr]
    obtain ⟨⟨m0, m1, m14⟩, ⟨m2, m3, m4⟩, ⟨m5, m6, m7⟩, ⟨m8, m9, m10⟩, ⟨m11, m12, m13⟩⟩ := (Hloc.out y hy).a.cells
    go_simp
  clear hK K
  refine RegJ.turns (fun _ => trivial) ?_
  intro K K0 hK hK0
  go_simp
  refine ⟨trivial, ?_⟩
  refine (callsIn_wide.2 (HS1.out v1 (hkd))).mono ?_
  rintro e v2 ⟨rfl, hb7⟩
  have v2k : KeptW w0 v2 := KeptW.mono hkd hb7
  refine hK _ _ _ (fun _ h => h) v2k ?_
  clear hK K hK0 K0
  iterate 3 (refine RegJ.reads ?_; intro K hK; go_simp; (first | refine ⟨_, fun _ _ => rfl, hK _ ?_⟩ | refine hK _ ?_); clear hK K)
  refine RegJ.reads ?_
  intro K hK
  go_simp
  refine ⟨VA, fun y hy => ?_, hK _ ?_⟩
  · rw [← HVA.out]
    unfold macV
    rw [mac_eta A X.ptr]
    obtain ⟨⟨m0, m1, m14⟩, ⟨m2, m3, m4⟩, ⟨m5, m6, m7⟩, ⟨m8, m9, m10⟩, ⟨m11, m12, m13⟩⟩ := (Hloc.out y hy).a.cells
    go_simp
  clear hK K
  refine RegJ.reads ?_
  intro K hK
  go_simp
  refine ⟨VB, fun y hy => ?_, hK _ ?_⟩
  · rw [← HVB.out]
    unfold macV
    rw [mac_eta B Y.ptr]
    obtain ⟨⟨m0, m1, m14⟩, ⟨m2, m3, m4⟩, ⟨m5, m6, m7⟩, ⟨m8, m9, m10⟩, ⟨m11, m12, m13⟩⟩ := (Hloc.out y hy).b.cells
    go_simp
  clear hK K
  refine RegJ.reads ?_
  intro K hK
  go_simp
  refine ⟨VA, fun y hy => ?_, hK _ ?_⟩
  · rw [← HVA.out]
    unfold macV
    rw [mac_eta A X.ptr]
    obtain ⟨⟨m0, m1, m14⟩, ⟨m2, m3, m4⟩, ⟨m5, m6, m7⟩, ⟨m8, m9, m10⟩, ⟨m11, m12, m13⟩⟩ := (Hloc.out y hy).a.cells
    go_simp
  clear hK K
  refine RegJ.reads ?_
  intro K hK
  go_simp
  refine ⟨VB, fun y hy => ?_, hK _ ?_⟩
  · rw [← HVB.out]
    unfold macV
    rw [mac_eta B Y.ptr]
    obtain ⟨⟨m0, m1, m14⟩, ⟨m2, m3, m4⟩, ⟨m5, m6, m7⟩, ⟨m8, m9, m10⟩, ⟨m11, m12, m13⟩⟩ := (Hloc.out y hy).b.cells
    go_simp
  clear hK K
  refine RegJ.turns (fun _ => trivial) ?_
  intro K K0 hK hK0
  go_simp
  refine ⟨trivial, ?_⟩
  refine (callsIn_wide.2 (HB1.out v2 (v2k))).mono ?_
  rintro e v3 ⟨rfl, hb7⟩
  have v3k : KeptW w0 v3 := KeptW.mono v2k hb7
  refine hK _ _ _ (fun _ h => h) v3k ?_
  clear hK K hK0 K0
  refine RegJ.turns (fun _ => trivial) ?_
  intro K K0 hK hK0
  go_simp
  refine ⟨trivial, ?_⟩
  refine (callsIn_wide.2 (HB2.out v3 (v3k))).mono ?_
  rintro e v4 ⟨rfl, hb7⟩
  have v4k : KeptW w0 v4 := KeptW.mono v3k hb7
  refine hK _ _ _ (fun _ h => h) v4k ?_
  clear hK K hK0 K0
  refine RegJ.reads ?_; intro K hK; go_simp; (first | refine ⟨_, fun _ _ => rfl, hK _ ?_⟩ | refine hK _ ?_); clear hK K
  refine RegJ.turns (fun _ => trivial) ?_
  intro K K0 hK hK0
  go_simp
  refine ⟨trivial, ?_⟩
  refine (callsIn_wide.2 (HS2.out v4 (v4k))).mono ?_
  rintro e v5 ⟨rfl, hb7⟩
  have v5k : KeptW w0 v5 := KeptW.mono v4k hb7
  refine hK _ _ _ (fun _ h => h) v5k ?_
  clear hK K hK0 K0
  iterate 2 (refine RegJ.reads ?_; intro K hK; go_simp; (first | refine ⟨_, fun _ _ => rfl, hK _ ?_⟩ | refine hK _ ?_); clear hK K)
  refine RegJ.nil ?_
  exact Hk.out _ _ _ _ _ _ _ _ _ _ _ _ _ _ _ _ _ _ _ (KeptW.bel v5k)
end Go.Proofs.Ytkngadbeflepoaa
/- Readers: machine.Of: its last stores, each by itself. No condition. -/
namespace Go.Proofs.Ytkngadbeflepoaa
open Go.RowKit

set_option maxRecDepth 100000 in
set_option maxHeartbeats 16000000 in
theorem of_reg9 (w0 : World) (g : Nat) (e : Int) {Q : Exit → Act → World → Prop}
    (_hQ : ∀ c a d v w, Q (.panic c) (Act.put a d v) w → Q (.panic c) a w) (HR : Hid (MacAt w0 g macNone none))
    (u0 u1 u3 u4 u5 u6 u7 u9 u10 u11 u12 u13 u14 u15 u16 u17 u18 u19 u20 u21 u22 u23 u24 u25 u26 u27 u28 u29 u30 u31 u32 u33 u34 u35 u36 u37 u38 u39 u40 u41 u42 : Value)
    (Hk : Hid (∀ (s28 s29 : Value) (w2 : World), w2 = rowSt w0 g 0 (macCells macNone none) → Q .normal ⟨List.toArray (u0 :: u1 :: Value.pointer (some ⟨g, 0, none⟩) :: Value.int .i64 e :: u4 :: u5 :: u6 :: u7 :: Value.int .i64 e :: u9 :: u10 :: u11 :: u12 :: u13 :: u14 :: u15 :: u16 :: u17 :: u18 :: u19 :: u20 :: u21 :: u22 :: u23 :: u24 :: u25 :: u26 :: u27 :: s28 :: s29 :: u30 :: u31 :: u32 :: u33 :: u34 :: u35 :: u36 :: u37 :: u38 :: u39 :: u40 :: u41 :: u42 :: []), []⟩ w2)) :
    Code.wp Try.prog (findR 9 (Try.f40.body.getD .skip)) Q ⟨List.toArray (u0 :: u1 :: Value.pointer (some ⟨g, 0, none⟩) :: u3 :: u4 :: u5 :: u6 :: u7 :: Value.int .i64 e :: u9 :: u10 :: u11 :: u12 :: u13 :: u14 :: u15 :: u16 :: u17 :: u18 :: u19 :: u20 :: u21 :: u22 :: u23 :: u24 :: u25 :: u26 :: u27 :: u28 :: u29 :: u30 :: u31 :: u32 :: u33 :: u34 :: u35 :: u36 :: u37 :: u38 :: u39 :: u40 :: u41 :: u42 :: []), []⟩ w0 := by
  conv => arg 2; whnf
  clear _hQ
  obtain ⟨⟨m0, m1, m14⟩, ⟨m2, m3, m4⟩, ⟨m5, m6, m7⟩, ⟨m8, m9, m10⟩, ⟨m11, m12, m13⟩⟩ := HR.out.cells
  have q0 := HR.out.thawed 0
  have q1 := HR.out.thawed 1
  have q2 := HR.out.thawed 2
  have q3 := HR.out.thawed 3
  have q4 := HR.out.thawed 4
  have q5 := HR.out.thawed 5
  have q6 := HR.out.thawed 6
  have q7 := HR.out.thawed 7
  have q8 := HR.out.thawed 8
  have q9 := HR.out.thawed 9
  have q10 := HR.out.thawed 10
  have q11 := HR.out.thawed 11
  have q12 := HR.out.thawed 12
  have q13 := HR.out.thawed 13
  have q14 := HR.out.thawed 14
  go_wp2_with fail
  exact Hk.out _ _ _ rfl

set_option maxRecDepth 100000 in
set_option maxHeartbeats 16000000 in
theorem of_reg13 (w0 : World) (g : Nat) (e : Int) {Q : Exit → Act → World → Prop}
    (_hQ : ∀ c a d v w, Q (.panic c) (Act.put a d v) w → Q (.panic c) a w) (HR : Hid (MacAt w0 g macNone none))
    (u0 u1 u3 u4 u5 u6 u7 u8 u10 u11 u12 u13 u14 u15 u16 u17 u18 u19 u20 u21 u22 u23 u24 u25 u26 u27 u28 u29 u30 u31 u32 u33 u34 u35 u36 u37 u38 u39 u40 u41 u42 : Value)
    (Hk : Hid (∀ (s35 s36 : Value) (w2 : World), w2 = rowSt w0 g 0 (macCells macNone none) → Q .normal ⟨List.toArray (u0 :: u1 :: Value.pointer (some ⟨g, 0, none⟩) :: Value.int .i64 e :: u4 :: u5 :: u6 :: u7 :: u8 :: Value.int .i64 e :: u10 :: u11 :: u12 :: u13 :: u14 :: u15 :: u16 :: u17 :: u18 :: u19 :: u20 :: u21 :: u22 :: u23 :: u24 :: u25 :: u26 :: u27 :: u28 :: u29 :: u30 :: u31 :: u32 :: u33 :: u34 :: s35 :: s36 :: u37 :: u38 :: u39 :: u40 :: u41 :: u42 :: []), []⟩ w2)) :
    Code.wp Try.prog (findR 13 (Try.f40.body.getD .skip)) Q ⟨List.toArray (u0 :: u1 :: Value.pointer (some ⟨g, 0, none⟩) :: u3 :: u4 :: u5 :: u6 :: u7 :: u8 :: Value.int .i64 e :: u10 :: u11 :: u12 :: u13 :: u14 :: u15 :: u16 :: u17 :: u18 :: u19 :: u20 :: u21 :: u22 :: u23 :: u24 :: u25 :: u26 :: u27 :: u28 :: u29 :: u30 :: u31 :: u32 :: u33 :: u34 :: u35 :: u36 :: u37 :: u38 :: u39 :: u40 :: u41 :: u42 :: []), []⟩ w0 := by
  conv => arg 2; whnf
  clear _hQ
  obtain ⟨⟨m0, m1, m14⟩, ⟨m2, m3, m4⟩, ⟨m5, m6, m7⟩, ⟨m8, m9, m10⟩, ⟨m11, m12, m13⟩⟩ := HR.out.cells
  have q0 := HR.out.thawed 0
  have q1 := HR.out.thawed 1
  have q2 := HR.out.thawed 2
  have q3 := HR.out.thawed 3
  have q4 := HR.out.thawed 4
  have q5 := HR.out.thawed 5
  have q6 := HR.out.thawed 6
  have q7 := HR.out.thawed 7
  have q8 := HR.out.thawed 8
  have q9 := HR.out.thawed 9
  have q10 := HR.out.thawed 10
  have q11 := HR.out.thawed 11
  have q12 := HR.out.thawed 12
  have q13 := HR.out.thawed 13
  have q14 := HR.out.thawed 14
  go_wp2_with fail
  exact Hk.out _ _ _ rfl

set_option maxRecDepth 100000 in
set_option maxHeartbeats 16000000 in
theorem of_reg15 (w0 : World) (g : Nat)  {Q : Exit → Act → World → Prop}
    (_hQ : ∀ c a d v w, Q (.panic c) (Act.put a d v) w → Q (.panic c) a w) (HR : Hid (MacAt w0 g macNone none))
    (u0 u1 u3 u4 u5 u6 u7 u8 u9 u10 u11 u12 u13 u14 u15 u16 u17 u18 u19 u20 u21 u22 u23 u24 u25 u26 u27 u28 u29 u30 u31 u32 u33 u34 u35 u36 u37 u38 u39 u40 u41 u42 : Value)
    (Hk : Hid (∀ (s40 : Value) (w2 : World), w2 = rowSt w0 g 0 (macCells macNone none) → Q .normal ⟨List.toArray (u0 :: u1 :: Value.pointer (some ⟨g, 0, none⟩) :: Value.int .i64 4 :: u4 :: u5 :: u6 :: u7 :: u8 :: u9 :: u10 :: u11 :: u12 :: u13 :: u14 :: u15 :: u16 :: u17 :: u18 :: u19 :: u20 :: u21 :: u22 :: u23 :: u24 :: u25 :: u26 :: u27 :: u28 :: u29 :: u30 :: u31 :: u32 :: u33 :: u34 :: u35 :: u36 :: u37 :: u38 :: u39 :: s40 :: u41 :: u42 :: []), []⟩ w2)) :
    Code.wp Try.prog (findR 15 (Try.f40.body.getD .skip)) Q ⟨List.toArray (u0 :: u1 :: Value.pointer (some ⟨g, 0, none⟩) :: u3 :: u4 :: u5 :: u6 :: u7 :: u8 :: u9 :: u10 :: u11 :: u12 :: u13 :: u14 :: u15 :: u16 :: u17 :: u18 :: u19 :: u20 :: u21 :: u22 :: u23 :: u24 :: u25 :: u26 :: u27 :: u28 :: u29 :: u30 :: u31 :: u32 :: u33 :: u34 :: u35 :: u36 :: u37 :: u38 :: u39 :: u40 :: u41 :: u42 :: []), []⟩ w0 := by
  conv => arg 2; whnf
  clear _hQ
  obtain ⟨⟨m0, m1, m14⟩, ⟨m2, m3, m4⟩, ⟨m5, m6, m7⟩, ⟨m8, m9, m10⟩, ⟨m11, m12, m13⟩⟩ := HR.out.cells
  have q0 := HR.out.thawed 0
  have q1 := HR.out.thawed 1
  have q2 := HR.out.thawed 2
  have q3 := HR.out.thawed 3
  have q4 := HR.out.thawed 4
  have q5 := HR.out.thawed 5
  have q6 := HR.out.thawed 6
  have q7 := HR.out.thawed 7
  have q8 := HR.out.thawed 8
  have q9 := HR.out.thawed 9
  have q10 := HR.out.thawed 10
  have q11 := HR.out.thawed 11
  have q12 := HR.out.thawed 12
  have q13 := HR.out.thawed 13
  have q14 := HR.out.thawed 14
  go_wp2_with fail
  exact Hk.out _ _ rfl

set_option maxRecDepth 100000 in
set_option maxHeartbeats 16000000 in
theorem of_reg16 (w0 : World) (g : Nat) (g5 : Nat) (M : MacV) (P : Option Addr) {Q : Exit → Act → World → Prop}
    (_hQ : ∀ c a d v w, Q (.panic c) (Act.put a d v) w → Q (.panic c) a w) (HR : Hid (MacAt w0 g macNone none)) (HP : Hid (PartAt w0 g5 M P))
    (u0 u1 u3 u4 u6 u7 u8 u9 u10 u11 u12 u13 u14 u15 u16 u17 u18 u19 u20 u21 u22 u23 u24 u25 u26 u27 u28 u29 u30 u31 u32 u33 u34 u35 u36 u37 u38 u39 u40 u41 u42 : Value)
    (Hk : Hid (∀ (s41 s42 : Value) (w2 : World), w2 = rowSt w0 g 0 (macCells M P) → Q .normal ⟨List.toArray (u0 :: u1 :: Value.pointer (some ⟨g, 0, none⟩) :: Value.int .i64 0 :: u4 :: Value.pointer (some ⟨g5, 0, none⟩) :: u6 :: u7 :: u8 :: u9 :: u10 :: u11 :: u12 :: u13 :: u14 :: u15 :: u16 :: u17 :: u18 :: u19 :: u20 :: u21 :: u22 :: u23 :: u24 :: u25 :: u26 :: u27 :: u28 :: u29 :: u30 :: u31 :: u32 :: u33 :: u34 :: u35 :: u36 :: u37 :: u38 :: u39 :: u40 :: s41 :: s42 :: []), []⟩ w2)) :
    Code.wp Try.prog (findR 16 (Try.f40.body.getD .skip)) Q ⟨List.toArray (u0 :: u1 :: Value.pointer (some ⟨g, 0, none⟩) :: u3 :: u4 :: Value.pointer (some ⟨g5, 0, none⟩) :: u6 :: u7 :: u8 :: u9 :: u10 :: u11 :: u12 :: u13 :: u14 :: u15 :: u16 :: u17 :: u18 :: u19 :: u20 :: u21 :: u22 :: u23 :: u24 :: u25 :: u26 :: u27 :: u28 :: u29 :: u30 :: u31 :: u32 :: u33 :: u34 :: u35 :: u36 :: u37 :: u38 :: u39 :: u40 :: u41 :: u42 :: []), []⟩ w0 := by
  conv => arg 2; whnf
  clear _hQ
  obtain ⟨⟨m0, m1, m14⟩, ⟨m2, m3, m4⟩, ⟨m5, m6, m7⟩, ⟨m8, m9, m10⟩, ⟨m11, m12, m13⟩⟩ := HR.out.cells
  have q0 := HR.out.thawed 0
  have q1 := HR.out.thawed 1
  have q2 := HR.out.thawed 2
  have q3 := HR.out.thawed 3
  have q4 := HR.out.thawed 4
  have q5 := HR.out.thawed 5
  have q6 := HR.out.thawed 6
  have q7 := HR.out.thawed 7
  have q8 := HR.out.thawed 8
  have q9 := HR.out.thawed 9
  have q10 := HR.out.thawed 10
  have q11 := HR.out.thawed 11
  have q12 := HR.out.thawed 12
  have q13 := HR.out.thawed 13
  have q14 := HR.out.thawed 14
  obtain ⟨p0, p1, p14⟩ := HP.out.cells
  obtain ⟨p2, p3, p4, p5, p6, p7, p8, p9, p10, p11, p12, p13⟩ := HP.out.tabs
  go_wp2_with fail
  exact Hk.out _ _ _ rfl
end Go.Proofs.Ytkngadbeflepoaa
/- Readers: machine.Of. Condition: the bytes fit in memory. -/
namespace Go.Proofs.Ytkngadbeflepoaa
open Go.RowKit

set_option maxRecDepth 100000 in
set_option maxHeartbeats 16000000 in
theorem mof_any (s : List UInt8) (hs : s.length ≤ maxLen) (w : World) :
    Calls Try.prog 40 #[.string ⟨s.toArray⟩] w fun e w' => ∃ X, e = .returned (.tuple #[macV (ofM s).1 X.ptr, .int .i64 ((ofM s).2 : Int)]) ∧ TreeAt w' X ∧ X.sh = (ofM s).1.sh ∧ Below w.heap.size w w' := by
  have Hof := Lib.hid (fun y : World => of_any1 s hs y)
  have HI := Lib.hid (of_start w s hs)
  obtain ⟨F, hF⟩ : ∃ F, ofM s = F := ⟨_, rfl⟩
  rw [hF]
  unfold ofM at hF
  obtain ⟨Y, hY⟩ : ∃ Y, ofL 4 0 (⟨0, s⟩, macNone) = Y := ⟨_, rfl⟩
  rw [hY] at hF
  have HF := Lib.hid hF; clear hF
  have HY := Lib.hid hY; clear hY
  go_enter Try.func40, Try.ntmps40
  go_upto_region 4 with ((with_reducible refine (Hof.out _).mono ?_); rintro e w2 ⟨rfl, rfl⟩)
  change Code.wp _ _ _ _ (ofW w s)
  generalize ofW w s = w1 at *
  go_loopw [18] (fun s18 wr => ∃ (i : Nat) (X : RdV × MacV) (T : Tr), i ≤ 4 ∧ s18 = .int .i64 (i : Int) ∧ OfI w X T wr ∧ X.1.e = 0 ∧ ofL (4 - i) i X = Y) (fun s18 _ => 4 - (intOf s18).toNat)
  case atStart => exact ⟨0, _, _, by omega, rfl, HI.out, rfl, HY.out⟩
  case round =>
    obtain ⟨i, X, T, hi, rfl, hI, hX0, hfin⟩ := hrel
    clear HI HY Hof
    have HI := Lib.hid hI; clear hI
    by_cases hlt : i < 4
    · have hlt' : (i : Int) < 4 := by omega
      have hsucc := tsucc (n := i) (by omega)
      obtain ⟨f, hf, hfs, hcall⟩ := ofStep_any i hlt w X T wr HI.out
      have hcell : wr.cell? ⟨w.heap.size + 1 + 1 + 1 + 1, i, none⟩ = some (.func (.func f) #[] #[.pointer (some ⟨w.heap.size + 1 + 1, 0, none⟩), .pointer (some ⟨w.heap.size + 1 + 1 + 1, 0, none⟩)]) := by
        simp only [World.cell?, HI.out.fn]
        simpa using hf
      rw [show 4 - i = (4 - (i + 1)) + 1 by omega] at hfin
      unfold ofL at hfin
      obtain ⟨Z, hZ⟩ : ∃ Z, ofStep i X = Z := ⟨_, rfl⟩
      rw [hZ] at hcall hfin
      have Hfin := Lib.hid hfin; clear hfin hZ hX0
      have Hcall := Lib.hid hcall; clear hcall hf
      have Herr := Lib.hid (fun (y : World) (hy : RdAt y (w.heap.size + 1) Z.1) => err_any Z.1 (w.heap.size + 1) y hy)
      go_upto_region 6 with fail
      go_cut [22, 23] (fun _ _ wx => ∃ U, OfI w Z U wx)
      case first =>
        rcases hfs with rfl | rfl | rfl | rfl
        all_goals (go_wp2_with ((with_reducible refine Hcall.out.mono ?_); rintro e w3 ⟨rfl, h3⟩; have H3 := Lib.hid h3; clear h3 Hcall); go_meet; exact H3.out)
      case rest =>
      obtain ⟨U, hcI⟩ := hcut
      generalize wc = w3 at *
      clear hcell HI Hcall hfs
      have H3 := Lib.hid hcI; clear hcI
      have f4 := H3.out.pt.get
      go_upto_region 8 with ((with_reducible refine (Herr.out _ H3.out.pt.rd).mono ?_); rintro e w' ⟨rfl, rfl⟩)
      clear f4 Herr
      by_cases he : Z.1.e = 0
      · have he' : ((Z.1.e : Int) != 0) = false := by simp [he]
        have hq := Hfin.out
        rw [if_pos he] at hq
        go_wp2_with fail
        go_roundw
        case rel => exact ⟨i + 1, Z, U, hlt, rfl, H3.out, he, hq⟩
        case measure => simp [intOf]; omega
      · have he' : ((Z.1.e : Int) != 0) = true := by rw [bne_iff_ne]; omega
        have hq := Hfin.out
        rw [if_neg he] at hq
        have hres : F = (macNone, Z.1.e) := by rw [← HF.out]; unfold ofRes; rw [← hq, if_neg he]
        subst hres
        clear Hfin hq HF he
        have HS := Lib.hid (H3.out.store macNone none)
        go_upto_region 9 with fail
        refine of_reg9 w3 w.heap.size (Z.1.e : Int) (fun _ _ d _ _ h => by cases d <;> exact h) (Lib.hid H3.out.res) _ _ _ _ _ _ _ _ _ _ _ _ _ _ _ _ _ _ _ _ _ _ _ _ _ _ _ _ _ _ _ _ _ _ _ _ _ _ _ _ _ (Lib.hid ?_)
        intro s0 s1 w8 hw8
        subst hw8
        go_wp2_with fail
        change bodyPost _ _ _ _ _ (rowSt w3 w.heap.size 0 (macCells macNone none))
        clear H3
        generalize rowSt w3 w.heap.size 0 (macCells macNone none) = w9 at *
        obtain ⟨⟨o0, o1, o14⟩, ⟨o2, o3, o4⟩, ⟨o5, o6, o7⟩, ⟨o8, o9, o10⟩, ⟨o11, o12, o13⟩⟩ := HS.out.1.cells
        refine bodyPost_ret (v := .tuple #[.agg (macCells macNone none).toArray, .int .i64 (Z.1.e : Int)]) (by rw [mac_eta]; simp [results, Try.results40, go_sem, o0, o1, o2, o3, o4, o5, o6, o7, o8, o9, o10, o11, o12, o13, o14] <;> rfl) rfl ?_
        exact ⟨.nil, rfl, trivial, rfl, HS.out.2.2⟩
    · have hlt' : ¬ (i : Int) < 4 := by omega
      have hi4 : i = 4 := by omega
      subst hi4
      have hXY : X = Y := hfin
      subst hXY
      clear hfin
      have hq := HF.out
      unfold ofRes at hq
      rw [if_pos hX0] at hq
      have Hend := Lib.hid (end_any X.1 (w.heap.size + 1) wr HI.out.pt.rd)
      generalize X.1.end_ = E at *
      have f4 := HI.out.pt.get
      have Hq := Lib.hid hq; clear hq HF hX0
      go_upto_region 12 with ((with_reducible refine Hend.out.mono ?_); rintro e w3 ⟨rfl, h3⟩; have H3 := Lib.hid (HI.out.only h3.1 h3.2); clear h3 f4 HI Hend)
      by_cases he : E.e = 0
      · have he' : ((E.e : Int) != 0) = false := by simp [he]
        have hq := Hq.out
        rw [if_pos he] at hq
        have Hq2 := Lib.hid hq; clear hq Hq he
        have hst := sets_any X.2 T.ptr w3 H3.out.sml.1 H3.out.sml.2
        rw [mac_eta] at hst
        obtain ⟨b, hb⟩ : ∃ b, setsOk X.2 = b := ⟨_, rfl⟩
        rw [hb] at hst
        have hq := Hq2.out
        rw [hb] at hq
        have Hst := Lib.hid hst; clear hst hb Hq2
        obtain ⟨p0, p1, p14⟩ := H3.out.pt.p.cells
        obtain ⟨p2, p3, p4, p5, p6, p7, p8, p9, p10, p11, p12, p13⟩ := H3.out.pt.p.tabs
        cases b with
        | false =>
          simp only [Bool.false_eq_true, if_false] at hq
          subst hq
          go_upto_region 15 with ((with_reducible refine Hst.out.mono ?_); rintro e w4 ⟨rfl, hb4⟩; have H4 := Lib.hid (H3.out.below hb4); clear hb4 Hst H3 p0 p1 p14 p2 p3 p4 p5 p6 p7 p8 p9 p10 p11 p12 p13)
          have HS := Lib.hid (H4.out.store macNone none)
          go_upto_region 15 with fail
          refine of_reg15 w4 w.heap.size  (fun _ _ d _ _ h => by cases d <;> exact h) (Lib.hid H4.out.res) _ _ _ _ _ _ _ _ _ _ _ _ _ _ _ _ _ _ _ _ _ _ _ _ _ _ _ _ _ _ _ _ _ _ _ _ _ _ _ _ _ _ (Lib.hid ?_)
          intro s0 w8 hw8
          subst hw8
          go_wp2_with fail
          change bodyPost _ _ _ _ _ (rowSt w4 w.heap.size 0 (macCells macNone none))
          have HT := Lib.hid (HS.out.2.1 _ H4.out.pt.tr)
          have Hsh := Lib.hid H4.out.pt.sh
          clear H4
          generalize rowSt w4 w.heap.size 0 (macCells macNone none) = w9 at *
          obtain ⟨⟨o0, o1, o14⟩, ⟨o2, o3, o4⟩, ⟨o5, o6, o7⟩, ⟨o8, o9, o10⟩, ⟨o11, o12, o13⟩⟩ := HS.out.1.cells
          refine bodyPost_ret (v := .tuple #[.agg (macCells macNone none).toArray, .int .i64 4]) (by rw [mac_eta]; simp [results, Try.results40, go_sem, o0, o1, o2, o3, o4, o5, o6, o7, o8, o9, o10, o11, o12, o13, o14] <;> rfl) rfl ?_
          exact ⟨.nil, rfl, trivial, rfl, HS.out.2.2⟩
        | true =>
          simp only [if_true] at hq
          subst hq
          go_upto_region 16 with ((with_reducible refine Hst.out.mono ?_); rintro e w4 ⟨rfl, hb4⟩; have H4 := Lib.hid (H3.out.below hb4); clear hb4 Hst H3 p0 p1 p14 p2 p3 p4 p5 p6 p7 p8 p9 p10 p11 p12 p13)
          have HS := Lib.hid (H4.out.store X.2 T.ptr)
          go_upto_region 16 with fail
          refine of_reg16 w4 w.heap.size (w.heap.size + 1 + 1 + 1) X.2 T.ptr (fun _ _ d _ _ h => by cases d <;> exact h) (Lib.hid H4.out.res) (Lib.hid H4.out.pt.p) _ _ _ _ _ _ _ _ _ _ _ _ _ _ _ _ _ _ _ _ _ _ _ _ _ _ _ _ _ _ _ _ _ _ _ _ _ _ _ _ _ (Lib.hid ?_)
          intro s0 s1 w8 hw8
          subst hw8
          go_wp2_with fail
          change bodyPost _ _ _ _ _ (rowSt w4 w.heap.size 0 (macCells X.2 T.ptr))
          have HT := Lib.hid (HS.out.2.1 _ H4.out.pt.tr)
          have Hsh := Lib.hid H4.out.pt.sh
          clear H4
          generalize rowSt w4 w.heap.size 0 (macCells X.2 T.ptr) = w9 at *
          obtain ⟨⟨o0, o1, o14⟩, ⟨o2, o3, o4⟩, ⟨o5, o6, o7⟩, ⟨o8, o9, o10⟩, ⟨o11, o12, o13⟩⟩ := HS.out.1.cells
          refine bodyPost_ret (v := .tuple #[.agg (macCells X.2 T.ptr).toArray, .int .i64 0]) (by rw [mac_eta]; simp [results, Try.results40, go_sem, o0, o1, o2, o3, o4, o5, o6, o7, o8, o9, o10, o11, o12, o13, o14] <;> rfl) rfl ?_
          exact ⟨T, rfl, HT.out, Hsh.out, HS.out.2.2⟩
      · have he' : ((E.e : Int) != 0) = true := by rw [bne_iff_ne]; omega
        have hq := Hq.out
        rw [if_neg he] at hq
        subst hq
        clear Hq he
        have HS := Lib.hid (H3.out.store macNone none)
        go_upto_region 13 with fail
        refine of_reg13 w3 w.heap.size (E.e : Int) (fun _ _ d _ _ h => by cases d <;> exact h) (Lib.hid H3.out.res) _ _ _ _ _ _ _ _ _ _ _ _ _ _ _ _ _ _ _ _ _ _ _ _ _ _ _ _ _ _ _ _ _ _ _ _ _ _ _ _ _ (Lib.hid ?_)
        intro s0 s1 w8 hw8
        subst hw8
        go_wp2_with fail
        change bodyPost _ _ _ _ _ (rowSt w3 w.heap.size 0 (macCells macNone none))
        have HT := Lib.hid (HS.out.2.1 _ H3.out.pt.tr)
        have Hsh := Lib.hid H3.out.pt.sh
        clear H3
        generalize rowSt w3 w.heap.size 0 (macCells macNone none) = w9 at *
        obtain ⟨⟨o0, o1, o14⟩, ⟨o2, o3, o4⟩, ⟨o5, o6, o7⟩, ⟨o8, o9, o10⟩, ⟨o11, o12, o13⟩⟩ := HS.out.1.cells
        refine bodyPost_ret (v := .tuple #[.agg (macCells macNone none).toArray, .int .i64 (E.e : Int)]) (by rw [mac_eta]; simp [results, Try.results40, go_sem, o0, o1, o2, o3, o4, o5, o6, o7, o8, o9, o10, o11, o12, o13, o14] <;> rfl) rfl ?_
        exact ⟨.nil, rfl, trivial, rfl, HS.out.2.2⟩
end Go.Proofs.Ytkngadbeflepoaa
