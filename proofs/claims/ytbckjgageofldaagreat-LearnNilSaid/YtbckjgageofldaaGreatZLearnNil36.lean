/- Deltas: Patch, where checksums are compared. No condition but the machine's own. -/
import Derived.Test.YtbckjgageofldaaGreatZLearnNil34
import Derived.Test.YtbckjgageofldaaGreatZLearnNil35
import Derived.Test.YtbckjgageofldaaGreatZLearnNil16
namespace Go.Proofs.YtbckjgageofldaaGreat
open Go.RowKit
set_option maxRecDepth 100000 in
set_option maxHeartbeats 16000000 in
theorem pa_reg16 (w0 : World) (g q : Nat) (A : MacV) (P : Option Addr) (X : Tr) (n : Nat) {Q : Exit → Act → World → Prop}
  (hQ : ∀ c a d v w, Q (.panic c) (Act.put a d v) w → Q (.panic c) a w) (HM : Hid (MacAt w0 g A P)) (HB : Hid (BoxAt w0 q (.int .u64 (n : Int)) 22)) (HX : Hid (TreeAt w0 X ∧ X.ptr = P ∧ X.sh = A.sh)) (HA : Hid (MacBy A ∧ (macB A).length ≤ maxLen))
  (u0 u1 u3 u4 u5 u6 u8 u9 u10 u11 u12 u13 u14 u15 u16 u17 u18 u19 u20 u21 u22 u23 u24 u25 u26 u27 u28 u29 u30 u31 u32 u33 u34 u35 u36 u37 u38 u39 u40 u41 u42 u43 u44 u45 u46 u47 u48 u49 u50 u51 u52 u53 u54 u55 u56 u57 u58 u59 u60 u61 u62 u63 u64 u65 u66 u67 u68 u69 u70 u71 u72 u73 u74 u75 : Value)
  (Hk : Hid (∀ (s50 s51 s52 s53 : Value) (w2 : World), Below w0.heap.size w0 w2 → Q .normal ⟨List.toArray (u0 :: u1 :: Value.pointer (some ⟨g, 0, none⟩) :: u3 :: u4 :: u5 :: u6 :: Value.pointer (some ⟨q, 0, none⟩) :: u8 :: u9 :: u10 :: u11 :: u12 :: u13 :: u14 :: u15 :: u16 :: u17 :: u18 :: u19 :: u20 :: u21 :: u22 :: u23 :: u24 :: u25 :: u26 :: u27 :: u28 :: u29 :: u30 :: u31 :: u32 :: u33 :: u34 :: u35 :: u36 :: u37 :: u38 :: u39 :: u40 :: u41 :: u42 :: u43 :: u44 :: u45 :: u46 :: u47 :: u48 :: u49 :: s50 :: s51 :: s52 :: s53 :: Value.bool ((sumM A : Int) != (n : Int)) :: u55 :: u56 :: u57 :: u58 :: u59 :: u60 :: u61 :: u62 :: u63 :: u64 :: u65 :: u66 :: u67 :: u68 :: u69 :: u70 :: u71 :: u72 :: u73 :: u74 :: u75 :: []), []⟩ w2)) :
  Code.wp Tryz.prog (findR 16 (Tryz.f50.body.getD .skip)) Q ⟨List.toArray (u0 :: u1 :: Value.pointer (some ⟨g, 0, none⟩) :: u3 :: u4 :: u5 :: u6 :: Value.pointer (some ⟨q, 0, none⟩) :: u8 :: u9 :: u10 :: u11 :: u12 :: u13 :: u14 :: u15 :: u16 :: u17 :: u18 :: u19 :: u20 :: u21 :: u22 :: u23 :: u24 :: u25 :: u26 :: u27 :: u28 :: u29 :: u30 :: u31 :: u32 :: u33 :: u34 :: u35 :: u36 :: u37 :: u38 :: u39 :: u40 :: u41 :: u42 :: u43 :: u44 :: u45 :: u46 :: u47 :: u48 :: u49 :: u50 :: u51 :: u52 :: u53 :: u54 :: u55 :: u56 :: u57 :: u58 :: u59 :: u60 :: u61 :: u62 :: u63 :: u64 :: u65 :: u66 :: u67 :: u68 :: u69 :: u70 :: u71 :: u72 :: u73 :: u74 :: u75 :: []), []⟩ w0 := by
 conv => arg 2; whnf
 have hby := fun (y : World) (hy : TreeAt y X) => mbytes_any A X HA.out.1 y hy HX.out.2.2
 rw [HX.out.2.1] at hby
 obtain ⟨VA, hVA⟩ : ∃ V, macV A P = V := ⟨_, rfl⟩
 rw [hVA] at hby
 have HVA := Lib.hid hVA; clear hVA
 have hsum := fun y : World => sum_any ⟨(macB A).toArray⟩ (by simpa [ByteArray.size] using HA.out.2) y
 obtain ⟨SA, hSA⟩ : ∃ S : ByteArray, (⟨(macB A).toArray⟩ : ByteArray) = S := ⟨_, rfl⟩
 have hx : (Crc.sum 0#64 SA.data.toList).toNat = sumM A := by rw [← hSA]; rfl
 rw [hSA] at hby hsum
 clear hSA
 rw [hx] at hsum
 clear hx
 have Hby := Lib.hid hby; clear hby
 have Hsum := Lib.hid (fun y : World => (hsum y).mono fun e w' h => (show e = .returned (.int .u64 (sumM A : Int)) ∧ Below y.heap.size y w' from ⟨h.1, by rw [← h.2]; exact Below.refl _ _⟩)); clear hsum
 generalize sumM A = sa at *
 refine (wpIn_wide (n := 1)).1 ?_
 refine RegK.wpIn_region_can (F := Fence.wide) (KeptW w0) [(0, 0), (3, 0), (1, 1), (2, 1), (4, 0)] (by kernel_rfl) (by kernel_rfl) (by kernel_rfl) hQ ⟨rfl, rfl, rfl, Nat.le_refl _, fun _ _ => rfl⟩ ?_
 dsimp only [RegK.pick, List.getElem?_cons_zero, List.getElem?_cons_succ]
 change RegK.Can _ _ _ _ _ _ _ _ w0.drew
 have hkd : KeptW w0 w0.drew := ⟨rfl, rfl, rfl, Nat.le_refl _, fun _ _ => rfl⟩
 generalize w0.drew = z1 at *
 refine RegK.can_reads ?_
 intro K hK
 rw [if_pos (by simp [Region.wanted])]
 refine ⟨VA, fun y hy => ?_, hK _ ?_⟩
 ·
  rw [← HVA.out]
  exact mac_loads _ _ _ rfl rfl (HM.out.below (KeptW.bel hy))
 clear hK K
 go_simp
 refine RegK.can_reads ?_
 intro K hK
 go_simp
 refine ⟨.int .u64 (n : Int), fun y hy => ?_, hK _ ?_⟩
 ·
  have k0 := (HB.out.below (KeptW.bel hy)).cell
  go_simp
 clear hK K
 refine RegK.can_turns (fun _ => trivial) ?_
 intro K K0 hK hK0
 go_simp
 refine ⟨trivial, ?_⟩
 refine (callsIn_wide.2 (Hby.out z1 (HX.out.1.below (KeptW.bel hkd)))).mono ?_
 rintro e z2 ⟨rfl, hb7⟩
 have z2k : KeptW w0 z2 := KeptW.mono hkd hb7
 refine hK _ _ z2k ?_
 clear hK K hK0 K0
 refine RegK.can_turns (fun _ => trivial) ?_
 intro K K0 hK hK0
 go_simp
 refine ⟨trivial, ?_⟩
 refine (callsIn_wide.2 (Hsum.out z2)).mono ?_
 rintro e z3 ⟨rfl, hb7⟩
 have z3k : KeptW w0 z3 := KeptW.mono z2k hb7
 refine hK _ _ z3k ?_
 clear hK K hK0 K0
 refine RegK.can_reads ?_; intro K hK; go_simp; (first | refine ⟨_, fun _ _ => rfl, hK _ ?_⟩ | refine hK _ ?_); clear hK K
 refine RegK.can_nil ?_
 exact Hk.out _ _ _ _ _ (KeptW.bel z3k)
set_option maxRecDepth 100000 in
set_option maxHeartbeats 16000000 in
theorem pa_reg21 (w0 : World) (g q : Nat) (A : MacV) (P : Option Addr) (X : Tr) (n : Nat) {Q : Exit → Act → World → Prop}
  (hQ : ∀ c a d v w, Q (.panic c) (Act.put a d v) w → Q (.panic c) a w) (HM : Hid (MacAt w0 g A P)) (HB : Hid (BoxAt w0 q (.int .u64 (n : Int)) 22)) (HX : Hid (TreeAt w0 X ∧ X.ptr = P ∧ X.sh = A.sh)) (HA : Hid (MacBy A ∧ (macB A).length ≤ maxLen))
  (u0 u1 u2 u3 u4 u5 u6 u7 u9 u10 u11 u12 u13 u14 u15 u17 u18 u19 u20 u21 u22 u23 u24 u25 u26 u27 u28 u29 u30 u31 u32 u33 u34 u35 u36 u37 u38 u39 u40 u41 u42 u43 u44 u45 u46 u47 u48 u49 u50 u51 u52 u53 u54 u55 u56 u57 u58 u59 u60 u61 u62 u63 u64 u65 u66 u67 u68 u69 u70 u71 u72 u73 u74 u75 : Value)
  (Hk : Hid (∀ (s69 s70 s71 s72 : Value) (w2 : World), Below w0.heap.size w0 w2 → Q .normal ⟨List.toArray (u0 :: u1 :: u2 :: u3 :: u4 :: u5 :: u6 :: u7 :: Value.pointer (some ⟨q, 0, none⟩) :: u9 :: u10 :: u11 :: u12 :: u13 :: u14 :: u15 :: Value.pointer (some ⟨g, 0, none⟩) :: u17 :: u18 :: u19 :: u20 :: u21 :: u22 :: u23 :: u24 :: u25 :: u26 :: u27 :: u28 :: u29 :: u30 :: u31 :: u32 :: u33 :: u34 :: u35 :: u36 :: u37 :: u38 :: u39 :: u40 :: u41 :: u42 :: u43 :: u44 :: u45 :: u46 :: u47 :: u48 :: u49 :: u50 :: u51 :: u52 :: u53 :: u54 :: u55 :: u56 :: u57 :: u58 :: u59 :: u60 :: u61 :: u62 :: u63 :: u64 :: u65 :: u66 :: u67 :: u68 :: s69 :: s70 :: s71 :: s72 :: Value.bool ((sumM A : Int) != (n : Int)) :: u74 :: u75 :: []), []⟩ w2)) :
  Code.wp Tryz.prog (findR 21 (Tryz.f50.body.getD .skip)) Q ⟨List.toArray (u0 :: u1 :: u2 :: u3 :: u4 :: u5 :: u6 :: u7 :: Value.pointer (some ⟨q, 0, none⟩) :: u9 :: u10 :: u11 :: u12 :: u13 :: u14 :: u15 :: Value.pointer (some ⟨g, 0, none⟩) :: u17 :: u18 :: u19 :: u20 :: u21 :: u22 :: u23 :: u24 :: u25 :: u26 :: u27 :: u28 :: u29 :: u30 :: u31 :: u32 :: u33 :: u34 :: u35 :: u36 :: u37 :: u38 :: u39 :: u40 :: u41 :: u42 :: u43 :: u44 :: u45 :: u46 :: u47 :: u48 :: u49 :: u50 :: u51 :: u52 :: u53 :: u54 :: u55 :: u56 :: u57 :: u58 :: u59 :: u60 :: u61 :: u62 :: u63 :: u64 :: u65 :: u66 :: u67 :: u68 :: u69 :: u70 :: u71 :: u72 :: u73 :: u74 :: u75 :: []), []⟩ w0 := by
 conv => arg 2; whnf
 have hby := fun (y : World) (hy : TreeAt y X) => mbytes_any A X HA.out.1 y hy HX.out.2.2
 rw [HX.out.2.1] at hby
 obtain ⟨VA, hVA⟩ : ∃ V, macV A P = V := ⟨_, rfl⟩
 rw [hVA] at hby
 have HVA := Lib.hid hVA; clear hVA
 have hsum := fun y : World => sum_any ⟨(macB A).toArray⟩ (by simpa [ByteArray.size] using HA.out.2) y
 obtain ⟨SA, hSA⟩ : ∃ S : ByteArray, (⟨(macB A).toArray⟩ : ByteArray) = S := ⟨_, rfl⟩
 have hx : (Crc.sum 0#64 SA.data.toList).toNat = sumM A := by rw [← hSA]; rfl
 rw [hSA] at hby hsum
 clear hSA
 rw [hx] at hsum
 clear hx
 have Hby := Lib.hid hby; clear hby
 have Hsum := Lib.hid (fun y : World => (hsum y).mono fun e w' h => (show e = .returned (.int .u64 (sumM A : Int)) ∧ Below y.heap.size y w' from ⟨h.1, by rw [← h.2]; exact Below.refl _ _⟩)); clear hsum
 generalize sumM A = sa at *
 refine (wpIn_wide (n := 1)).1 ?_
 refine RegK.wpIn_region_can (F := Fence.wide) (KeptW w0) [(0, 0), (3, 0), (1, 1), (2, 1), (4, 0)] (by kernel_rfl) (by kernel_rfl) (by kernel_rfl) hQ ⟨rfl, rfl, rfl, Nat.le_refl _, fun _ _ => rfl⟩ ?_
 dsimp only [RegK.pick, List.getElem?_cons_zero, List.getElem?_cons_succ]
 change RegK.Can _ _ _ _ _ _ _ _ w0.drew
 have hkd : KeptW w0 w0.drew := ⟨rfl, rfl, rfl, Nat.le_refl _, fun _ _ => rfl⟩
 generalize w0.drew = z1 at *
 refine RegK.can_reads ?_
 intro K hK
 rw [if_pos (by simp [Region.wanted])]
 refine ⟨VA, fun y hy => ?_, hK _ ?_⟩
 ·
  rw [← HVA.out]
  exact mac_loads _ _ _ rfl rfl (HM.out.below (KeptW.bel hy))
 clear hK K
 go_simp
 refine RegK.can_reads ?_
 intro K hK
 go_simp
 refine ⟨.int .u64 (n : Int), fun y hy => ?_, hK _ ?_⟩
 ·
  have k0 := (HB.out.below (KeptW.bel hy)).cell
  go_simp
 clear hK K
 refine RegK.can_turns (fun _ => trivial) ?_
 intro K K0 hK hK0
 go_simp
 refine ⟨trivial, ?_⟩
 refine (callsIn_wide.2 (Hby.out z1 (HX.out.1.below (KeptW.bel hkd)))).mono ?_
 rintro e z2 ⟨rfl, hb7⟩
 have z2k : KeptW w0 z2 := KeptW.mono hkd hb7
 refine hK _ _ z2k ?_
 clear hK K hK0 K0
 refine RegK.can_turns (fun _ => trivial) ?_
 intro K K0 hK hK0
 go_simp
 refine ⟨trivial, ?_⟩
 refine (callsIn_wide.2 (Hsum.out z2)).mono ?_
 rintro e z3 ⟨rfl, hb7⟩
 have z3k : KeptW w0 z3 := KeptW.mono z2k hb7
 refine hK _ _ z3k ?_
 clear hK K hK0 K0
 refine RegK.can_reads ?_; intro K hK; go_simp; (first | refine ⟨_, fun _ _ => rfl, hK _ ?_⟩ | refine hK _ ?_); clear hK K
 refine RegK.can_nil ?_
 exact Hk.out _ _ _ _ _ (KeptW.bel z3k)
end Go.Proofs.YtbckjgageofldaaGreat
namespace Go.Proofs.YtbckjgageofldaaGreat
open Go.RowKit
set_option maxRecDepth 100000 in
set_option maxHeartbeats 16000000 in
theorem pa_reg11 (w0 : World) (g : Nat) (e : Int) {Q : Exit → Act → World → Prop}
  (HR : Hid (MacAt w0 g macNone none))
  (u0 u1 u2 u3 u5 u6 u7 u8 u9 u10 u11 u12 u13 u15 u16 u17 u18 u19 u20 u21 u22 u23 u24 u25 u26 u27 u28 u29 u30 u31 u32 u33 u34 u35 u36 u37 u38 u39 u40 u41 u42 u43 u44 u45 u46 u47 u48 u49 u50 u51 u52 u53 u54 u55 u56 u57 u58 u59 u60 u61 u62 u63 u64 u65 u66 u67 u68 u69 u70 u71 u72 u73 u74 u75 : Value)
  (Hk : Hid (∀ (s41 s42 : Value) (w2 : World), w2 = rowSt w0 g 0 (macCells macNone none) → Q .normal ⟨List.toArray (u0 :: u1 :: u2 :: u3 :: Value.pointer (some ⟨g, 0, none⟩) :: Value.int .i64 e :: u6 :: u7 :: u8 :: u9 :: u10 :: u11 :: u12 :: u13 :: Value.int .i64 e :: u15 :: u16 :: u17 :: u18 :: u19 :: u20 :: u21 :: u22 :: u23 :: u24 :: u25 :: u26 :: u27 :: u28 :: u29 :: u30 :: u31 :: u32 :: u33 :: u34 :: u35 :: u36 :: u37 :: u38 :: u39 :: u40 :: s41 :: s42 :: u43 :: u44 :: u45 :: u46 :: u47 :: u48 :: u49 :: u50 :: u51 :: u52 :: u53 :: u54 :: u55 :: u56 :: u57 :: u58 :: u59 :: u60 :: u61 :: u62 :: u63 :: u64 :: u65 :: u66 :: u67 :: u68 :: u69 :: u70 :: u71 :: u72 :: u73 :: u74 :: u75 :: []), []⟩ w2)) :
  Code.wp Tryz.prog (findR 11 (Tryz.f50.body.getD .skip)) Q ⟨List.toArray (u0 :: u1 :: u2 :: u3 :: Value.pointer (some ⟨g, 0, none⟩) :: u5 :: u6 :: u7 :: u8 :: u9 :: u10 :: u11 :: u12 :: u13 :: Value.int .i64 e :: u15 :: u16 :: u17 :: u18 :: u19 :: u20 :: u21 :: u22 :: u23 :: u24 :: u25 :: u26 :: u27 :: u28 :: u29 :: u30 :: u31 :: u32 :: u33 :: u34 :: u35 :: u36 :: u37 :: u38 :: u39 :: u40 :: u41 :: u42 :: u43 :: u44 :: u45 :: u46 :: u47 :: u48 :: u49 :: u50 :: u51 :: u52 :: u53 :: u54 :: u55 :: u56 :: u57 :: u58 :: u59 :: u60 :: u61 :: u62 :: u63 :: u64 :: u65 :: u66 :: u67 :: u68 :: u69 :: u70 :: u71 :: u72 :: u73 :: u74 :: u75 :: []), []⟩ w0 := by
 conv => arg 2; whnf
 obtain ⟨⟨m0, m1, m14⟩, ⟨m2, m3, m4⟩, ⟨m5, m6, m7⟩, ⟨m8, m9, m10⟩, ⟨m11, m12, m13⟩⟩ := HR.out.cells
 have q0 := HR.out.thawed 0
 have q1 := HR.out.thawed 1
 have q2 := HR.out.thawed 2
 have q3 := HR.out.thawed 3
 have q4 := HR.out.thawed 4
 have q5 := HR.out.thawed 5
 have q6 := HR.out.thawed 6
 have q7 := HR.out.thawed 7
 have q8 := HR.out.thawed 8
 have q9 := HR.out.thawed 9
 have q10 := HR.out.thawed 10
 have q11 := HR.out.thawed 11
 have q12 := HR.out.thawed 12
 have q13 := HR.out.thawed 13
 have q14 := HR.out.thawed 14
 go_wp2_with fail
 exact Hk.out _ _ _ rfl
set_option maxRecDepth 100000 in
set_option maxHeartbeats 16000000 in
theorem pa_reg15 (w0 : World) (g : Nat) (e : Int) {Q : Exit → Act → World → Prop}
  (HR : Hid (MacAt w0 g macNone none))
  (u0 u1 u2 u3 u5 u6 u7 u8 u9 u10 u11 u12 u13 u14 u16 u17 u18 u19 u20 u21 u22 u23 u24 u25 u26 u27 u28 u29 u30 u31 u32 u33 u34 u35 u36 u37 u38 u39 u40 u41 u42 u43 u44 u45 u46 u47 u48 u49 u50 u51 u52 u53 u54 u55 u56 u57 u58 u59 u60 u61 u62 u63 u64 u65 u66 u67 u68 u69 u70 u71 u72 u73 u74 u75 : Value)
  (Hk : Hid (∀ (s48 s49 : Value) (w2 : World), w2 = rowSt w0 g 0 (macCells macNone none) → Q .normal ⟨List.toArray (u0 :: u1 :: u2 :: u3 :: Value.pointer (some ⟨g, 0, none⟩) :: Value.int .i64 e :: u6 :: u7 :: u8 :: u9 :: u10 :: u11 :: u12 :: u13 :: u14 :: Value.int .i64 e :: u16 :: u17 :: u18 :: u19 :: u20 :: u21 :: u22 :: u23 :: u24 :: u25 :: u26 :: u27 :: u28 :: u29 :: u30 :: u31 :: u32 :: u33 :: u34 :: u35 :: u36 :: u37 :: u38 :: u39 :: u40 :: u41 :: u42 :: u43 :: u44 :: u45 :: u46 :: u47 :: s48 :: s49 :: u50 :: u51 :: u52 :: u53 :: u54 :: u55 :: u56 :: u57 :: u58 :: u59 :: u60 :: u61 :: u62 :: u63 :: u64 :: u65 :: u66 :: u67 :: u68 :: u69 :: u70 :: u71 :: u72 :: u73 :: u74 :: u75 :: []), []⟩ w2)) :
  Code.wp Tryz.prog (findR 15 (Tryz.f50.body.getD .skip)) Q ⟨List.toArray (u0 :: u1 :: u2 :: u3 :: Value.pointer (some ⟨g, 0, none⟩) :: u5 :: u6 :: u7 :: u8 :: u9 :: u10 :: u11 :: u12 :: u13 :: u14 :: Value.int .i64 e :: u16 :: u17 :: u18 :: u19 :: u20 :: u21 :: u22 :: u23 :: u24 :: u25 :: u26 :: u27 :: u28 :: u29 :: u30 :: u31 :: u32 :: u33 :: u34 :: u35 :: u36 :: u37 :: u38 :: u39 :: u40 :: u41 :: u42 :: u43 :: u44 :: u45 :: u46 :: u47 :: u48 :: u49 :: u50 :: u51 :: u52 :: u53 :: u54 :: u55 :: u56 :: u57 :: u58 :: u59 :: u60 :: u61 :: u62 :: u63 :: u64 :: u65 :: u66 :: u67 :: u68 :: u69 :: u70 :: u71 :: u72 :: u73 :: u74 :: u75 :: []), []⟩ w0 := by
 conv => arg 2; whnf
 obtain ⟨⟨m0, m1, m14⟩, ⟨m2, m3, m4⟩, ⟨m5, m6, m7⟩, ⟨m8, m9, m10⟩, ⟨m11, m12, m13⟩⟩ := HR.out.cells
 have q0 := HR.out.thawed 0
 have q1 := HR.out.thawed 1
 have q2 := HR.out.thawed 2
 have q3 := HR.out.thawed 3
 have q4 := HR.out.thawed 4
 have q5 := HR.out.thawed 5
 have q6 := HR.out.thawed 6
 have q7 := HR.out.thawed 7
 have q8 := HR.out.thawed 8
 have q9 := HR.out.thawed 9
 have q10 := HR.out.thawed 10
 have q11 := HR.out.thawed 11
 have q12 := HR.out.thawed 12
 have q13 := HR.out.thawed 13
 have q14 := HR.out.thawed 14
 go_wp2_with fail
 exact Hk.out _ _ _ rfl
set_option maxRecDepth 100000 in
set_option maxHeartbeats 16000000 in
theorem pa_reg20 (w0 : World) (g : Nat) (e : Int) {Q : Exit → Act → World → Prop}
  (HR : Hid (MacAt w0 g macNone none))
  (u0 u1 u2 u3 u5 u6 u7 u8 u9 u10 u11 u12 u13 u14 u15 u16 u18 u19 u20 u21 u22 u23 u24 u25 u26 u27 u28 u29 u30 u31 u32 u33 u34 u35 u36 u37 u38 u39 u40 u41 u42 u43 u44 u45 u46 u47 u48 u49 u50 u51 u52 u53 u54 u55 u56 u57 u58 u59 u60 u61 u62 u63 u64 u65 u66 u67 u68 u69 u70 u71 u72 u73 u74 u75 : Value)
  (Hk : Hid (∀ (s67 s68 : Value) (w2 : World), w2 = rowSt w0 g 0 (macCells macNone none) → Q .normal ⟨List.toArray (u0 :: u1 :: u2 :: u3 :: Value.pointer (some ⟨g, 0, none⟩) :: Value.int .i64 e :: u6 :: u7 :: u8 :: u9 :: u10 :: u11 :: u12 :: u13 :: u14 :: u15 :: u16 :: Value.int .i64 e :: u18 :: u19 :: u20 :: u21 :: u22 :: u23 :: u24 :: u25 :: u26 :: u27 :: u28 :: u29 :: u30 :: u31 :: u32 :: u33 :: u34 :: u35 :: u36 :: u37 :: u38 :: u39 :: u40 :: u41 :: u42 :: u43 :: u44 :: u45 :: u46 :: u47 :: u48 :: u49 :: u50 :: u51 :: u52 :: u53 :: u54 :: u55 :: u56 :: u57 :: u58 :: u59 :: u60 :: u61 :: u62 :: u63 :: u64 :: u65 :: u66 :: s67 :: s68 :: u69 :: u70 :: u71 :: u72 :: u73 :: u74 :: u75 :: []), []⟩ w2)) :
  Code.wp Tryz.prog (findR 20 (Tryz.f50.body.getD .skip)) Q ⟨List.toArray (u0 :: u1 :: u2 :: u3 :: Value.pointer (some ⟨g, 0, none⟩) :: u5 :: u6 :: u7 :: u8 :: u9 :: u10 :: u11 :: u12 :: u13 :: u14 :: u15 :: u16 :: Value.int .i64 e :: u18 :: u19 :: u20 :: u21 :: u22 :: u23 :: u24 :: u25 :: u26 :: u27 :: u28 :: u29 :: u30 :: u31 :: u32 :: u33 :: u34 :: u35 :: u36 :: u37 :: u38 :: u39 :: u40 :: u41 :: u42 :: u43 :: u44 :: u45 :: u46 :: u47 :: u48 :: u49 :: u50 :: u51 :: u52 :: u53 :: u54 :: u55 :: u56 :: u57 :: u58 :: u59 :: u60 :: u61 :: u62 :: u63 :: u64 :: u65 :: u66 :: u67 :: u68 :: u69 :: u70 :: u71 :: u72 :: u73 :: u74 :: u75 :: []), []⟩ w0 := by
 conv => arg 2; whnf
 obtain ⟨⟨m0, m1, m14⟩, ⟨m2, m3, m4⟩, ⟨m5, m6, m7⟩, ⟨m8, m9, m10⟩, ⟨m11, m12, m13⟩⟩ := HR.out.cells
 have q0 := HR.out.thawed 0
 have q1 := HR.out.thawed 1
 have q2 := HR.out.thawed 2
 have q3 := HR.out.thawed 3
 have q4 := HR.out.thawed 4
 have q5 := HR.out.thawed 5
 have q6 := HR.out.thawed 6
 have q7 := HR.out.thawed 7
 have q8 := HR.out.thawed 8
 have q9 := HR.out.thawed 9
 have q10 := HR.out.thawed 10
 have q11 := HR.out.thawed 11
 have q12 := HR.out.thawed 12
 have q13 := HR.out.thawed 13
 have q14 := HR.out.thawed 14
 go_wp2_with fail
 exact Hk.out _ _ _ rfl
set_option maxRecDepth 100000 in
set_option maxHeartbeats 16000000 in
theorem pa_reg17 (w0 : World) (g : Nat) {Q : Exit → Act → World → Prop}
  (HR : Hid (MacAt w0 g macNone none))
  (u0 u1 u2 u3 u5 u6 u7 u8 u9 u10 u11 u12 u13 u14 u15 u16 u17 u18 u19 u20 u21 u22 u23 u24 u25 u26 u27 u28 u29 u30 u31 u32 u33 u34 u35 u36 u37 u38 u39 u40 u41 u42 u43 u44 u45 u46 u47 u48 u49 u50 u51 u52 u53 u54 u55 u56 u57 u58 u59 u60 u61 u62 u63 u64 u65 u66 u67 u68 u69 u70 u71 u72 u73 u74 u75 : Value)
  (Hk : Hid (∀ (s55 : Value) (w2 : World), w2 = rowSt w0 g 0 (macCells macNone none) → Q .normal ⟨List.toArray (u0 :: u1 :: u2 :: u3 :: Value.pointer (some ⟨g, 0, none⟩) :: Value.int .i64 14 :: u6 :: u7 :: u8 :: u9 :: u10 :: u11 :: u12 :: u13 :: u14 :: u15 :: u16 :: u17 :: u18 :: u19 :: u20 :: u21 :: u22 :: u23 :: u24 :: u25 :: u26 :: u27 :: u28 :: u29 :: u30 :: u31 :: u32 :: u33 :: u34 :: u35 :: u36 :: u37 :: u38 :: u39 :: u40 :: u41 :: u42 :: u43 :: u44 :: u45 :: u46 :: u47 :: u48 :: u49 :: u50 :: u51 :: u52 :: u53 :: u54 :: s55 :: u56 :: u57 :: u58 :: u59 :: u60 :: u61 :: u62 :: u63 :: u64 :: u65 :: u66 :: u67 :: u68 :: u69 :: u70 :: u71 :: u72 :: u73 :: u74 :: u75 :: []), []⟩ w2)) :
  Code.wp Tryz.prog (findR 17 (Tryz.f50.body.getD .skip)) Q ⟨List.toArray (u0 :: u1 :: u2 :: u3 :: Value.pointer (some ⟨g, 0, none⟩) :: u5 :: u6 :: u7 :: u8 :: u9 :: u10 :: u11 :: u12 :: u13 :: u14 :: u15 :: u16 :: u17 :: u18 :: u19 :: u20 :: u21 :: u22 :: u23 :: u24 :: u25 :: u26 :: u27 :: u28 :: u29 :: u30 :: u31 :: u32 :: u33 :: u34 :: u35 :: u36 :: u37 :: u38 :: u39 :: u40 :: u41 :: u42 :: u43 :: u44 :: u45 :: u46 :: u47 :: u48 :: u49 :: u50 :: u51 :: u52 :: u53 :: u54 :: u55 :: u56 :: u57 :: u58 :: u59 :: u60 :: u61 :: u62 :: u63 :: u64 :: u65 :: u66 :: u67 :: u68 :: u69 :: u70 :: u71 :: u72 :: u73 :: u74 :: u75 :: []), []⟩ w0 := by
 conv => arg 2; whnf
 obtain ⟨⟨m0, m1, m14⟩, ⟨m2, m3, m4⟩, ⟨m5, m6, m7⟩, ⟨m8, m9, m10⟩, ⟨m11, m12, m13⟩⟩ := HR.out.cells
 have q0 := HR.out.thawed 0
 have q1 := HR.out.thawed 1
 have q2 := HR.out.thawed 2
 have q3 := HR.out.thawed 3
 have q4 := HR.out.thawed 4
 have q5 := HR.out.thawed 5
 have q6 := HR.out.thawed 6
 have q7 := HR.out.thawed 7
 have q8 := HR.out.thawed 8
 have q9 := HR.out.thawed 9
 have q10 := HR.out.thawed 10
 have q11 := HR.out.thawed 11
 have q12 := HR.out.thawed 12
 have q13 := HR.out.thawed 13
 have q14 := HR.out.thawed 14
 go_wp2_with fail
 exact Hk.out _ _ rfl
set_option maxRecDepth 100000 in
set_option maxHeartbeats 16000000 in
theorem pa_reg22 (w0 : World) (g : Nat) {Q : Exit → Act → World → Prop}
  (HR : Hid (MacAt w0 g macNone none))
  (u0 u1 u2 u3 u5 u6 u7 u8 u9 u10 u11 u12 u13 u14 u15 u16 u17 u18 u19 u20 u21 u22 u23 u24 u25 u26 u27 u28 u29 u30 u31 u32 u33 u34 u35 u36 u37 u38 u39 u40 u41 u42 u43 u44 u45 u46 u47 u48 u49 u50 u51 u52 u53 u54 u55 u56 u57 u58 u59 u60 u61 u62 u63 u64 u65 u66 u67 u68 u69 u70 u71 u72 u73 u74 u75 : Value)
  (Hk : Hid (∀ (s74 : Value) (w2 : World), w2 = rowSt w0 g 0 (macCells macNone none) → Q .normal ⟨List.toArray (u0 :: u1 :: u2 :: u3 :: Value.pointer (some ⟨g, 0, none⟩) :: Value.int .i64 5 :: u6 :: u7 :: u8 :: u9 :: u10 :: u11 :: u12 :: u13 :: u14 :: u15 :: u16 :: u17 :: u18 :: u19 :: u20 :: u21 :: u22 :: u23 :: u24 :: u25 :: u26 :: u27 :: u28 :: u29 :: u30 :: u31 :: u32 :: u33 :: u34 :: u35 :: u36 :: u37 :: u38 :: u39 :: u40 :: u41 :: u42 :: u43 :: u44 :: u45 :: u46 :: u47 :: u48 :: u49 :: u50 :: u51 :: u52 :: u53 :: u54 :: u55 :: u56 :: u57 :: u58 :: u59 :: u60 :: u61 :: u62 :: u63 :: u64 :: u65 :: u66 :: u67 :: u68 :: u69 :: u70 :: u71 :: u72 :: u73 :: s74 :: u75 :: []), []⟩ w2)) :
  Code.wp Tryz.prog (findR 22 (Tryz.f50.body.getD .skip)) Q ⟨List.toArray (u0 :: u1 :: u2 :: u3 :: Value.pointer (some ⟨g, 0, none⟩) :: u5 :: u6 :: u7 :: u8 :: u9 :: u10 :: u11 :: u12 :: u13 :: u14 :: u15 :: u16 :: u17 :: u18 :: u19 :: u20 :: u21 :: u22 :: u23 :: u24 :: u25 :: u26 :: u27 :: u28 :: u29 :: u30 :: u31 :: u32 :: u33 :: u34 :: u35 :: u36 :: u37 :: u38 :: u39 :: u40 :: u41 :: u42 :: u43 :: u44 :: u45 :: u46 :: u47 :: u48 :: u49 :: u50 :: u51 :: u52 :: u53 :: u54 :: u55 :: u56 :: u57 :: u58 :: u59 :: u60 :: u61 :: u62 :: u63 :: u64 :: u65 :: u66 :: u67 :: u68 :: u69 :: u70 :: u71 :: u72 :: u73 :: u74 :: u75 :: []), []⟩ w0 := by
 conv => arg 2; whnf
 obtain ⟨⟨m0, m1, m14⟩, ⟨m2, m3, m4⟩, ⟨m5, m6, m7⟩, ⟨m8, m9, m10⟩, ⟨m11, m12, m13⟩⟩ := HR.out.cells
 have q0 := HR.out.thawed 0
 have q1 := HR.out.thawed 1
 have q2 := HR.out.thawed 2
 have q3 := HR.out.thawed 3
 have q4 := HR.out.thawed 4
 have q5 := HR.out.thawed 5
 have q6 := HR.out.thawed 6
 have q7 := HR.out.thawed 7
 have q8 := HR.out.thawed 8
 have q9 := HR.out.thawed 9
 have q10 := HR.out.thawed 10
 have q11 := HR.out.thawed 11
 have q12 := HR.out.thawed 12
 have q13 := HR.out.thawed 13
 have q14 := HR.out.thawed 14
 go_wp2_with fail
 exact Hk.out _ _ rfl
set_option maxRecDepth 100000 in
set_option maxHeartbeats 16000000 in
theorem pa_reg23 (w0 : World) (g gb : Nat) (B : MacV) (P : Option Addr) {Q : Exit → Act → World → Prop}
  (HR : Hid (MacAt w0 g macNone none)) (HP : Hid (MacAt w0 gb B P))
  (u0 u1 u2 u3 u5 u6 u7 u8 u9 u10 u11 u12 u13 u14 u15 u17 u18 u19 u20 u21 u22 u23 u24 u25 u26 u27 u28 u29 u30 u31 u32 u33 u34 u35 u36 u37 u38 u39 u40 u41 u42 u43 u44 u45 u46 u47 u48 u49 u50 u51 u52 u53 u54 u55 u56 u57 u58 u59 u60 u61 u62 u63 u64 u65 u66 u67 u68 u69 u70 u71 u72 u73 u74 u75 : Value)
  (Hk : Hid (∀ (s75 : Value) (w2 : World), w2 = rowSt w0 g 0 (macCells B P) → Q .normal ⟨List.toArray (u0 :: u1 :: u2 :: u3 :: Value.pointer (some ⟨g, 0, none⟩) :: Value.int .i64 0 :: u6 :: u7 :: u8 :: u9 :: u10 :: u11 :: u12 :: u13 :: u14 :: u15 :: Value.pointer (some ⟨gb, 0, none⟩) :: u17 :: u18 :: u19 :: u20 :: u21 :: u22 :: u23 :: u24 :: u25 :: u26 :: u27 :: u28 :: u29 :: u30 :: u31 :: u32 :: u33 :: u34 :: u35 :: u36 :: u37 :: u38 :: u39 :: u40 :: u41 :: u42 :: u43 :: u44 :: u45 :: u46 :: u47 :: u48 :: u49 :: u50 :: u51 :: u52 :: u53 :: u54 :: u55 :: u56 :: u57 :: u58 :: u59 :: u60 :: u61 :: u62 :: u63 :: u64 :: u65 :: u66 :: u67 :: u68 :: u69 :: u70 :: u71 :: u72 :: u73 :: u74 :: s75 :: []), []⟩ w2)) :
  Code.wp Tryz.prog (findR 23 (Tryz.f50.body.getD .skip)) Q ⟨List.toArray (u0 :: u1 :: u2 :: u3 :: Value.pointer (some ⟨g, 0, none⟩) :: u5 :: u6 :: u7 :: u8 :: u9 :: u10 :: u11 :: u12 :: u13 :: u14 :: u15 :: Value.pointer (some ⟨gb, 0, none⟩) :: u17 :: u18 :: u19 :: u20 :: u21 :: u22 :: u23 :: u24 :: u25 :: u26 :: u27 :: u28 :: u29 :: u30 :: u31 :: u32 :: u33 :: u34 :: u35 :: u36 :: u37 :: u38 :: u39 :: u40 :: u41 :: u42 :: u43 :: u44 :: u45 :: u46 :: u47 :: u48 :: u49 :: u50 :: u51 :: u52 :: u53 :: u54 :: u55 :: u56 :: u57 :: u58 :: u59 :: u60 :: u61 :: u62 :: u63 :: u64 :: u65 :: u66 :: u67 :: u68 :: u69 :: u70 :: u71 :: u72 :: u73 :: u74 :: u75 :: []), []⟩ w0 := by
 conv => arg 2; whnf
 obtain ⟨⟨m0, m1, m14⟩, ⟨m2, m3, m4⟩, ⟨m5, m6, m7⟩, ⟨m8, m9, m10⟩, ⟨m11, m12, m13⟩⟩ := HR.out.cells
 have q0 := HR.out.thawed 0
 have q1 := HR.out.thawed 1
 have q2 := HR.out.thawed 2
 have q3 := HR.out.thawed 3
 have q4 := HR.out.thawed 4
 have q5 := HR.out.thawed 5
 have q6 := HR.out.thawed 6
 have q7 := HR.out.thawed 7
 have q8 := HR.out.thawed 8
 have q9 := HR.out.thawed 9
 have q10 := HR.out.thawed 10
 have q11 := HR.out.thawed 11
 have q12 := HR.out.thawed 12
 have q13 := HR.out.thawed 13
 have q14 := HR.out.thawed 14
 obtain ⟨⟨p0, p1, p14⟩, ⟨p2, p3, p4⟩, ⟨p5, p6, p7⟩, ⟨p8, p9, p10⟩, ⟨p11, p12, p13⟩⟩ := HP.out.cells
 go_wp2_with fail
 exact Hk.out _ _ rfl
end Go.Proofs.YtbckjgageofldaaGreat
