/- Deltas: law14.wakes, regions that call Diff. No condition. -/
import Derived.Test.YtkngadbeflepoaaGreatZDeltaTells42
import Derived.Test.YtkngadbeflepoaaGreatZDeltaTells27
import Derived.Test.YtkngadbeflepoaaGreatZDeltaTells48
import Derived.Test.YtkngadbeflepoaaGreatZDeltaTells17
namespace Go.Proofs.YtkngadbeflepoaaGreat
open Go.RowKit
set_option maxRecDepth 100000 in
set_option maxHeartbeats 16000000 in
theorem dw_reg3 (w0 : World) (g1 g2 : Nat) (A B : MacV) (X Y : Tr) {Q : Exit → Act → World → Prop}
    (HI : Hid (TwoI w0 g1 g2 A B X Y)) (HA : Hid (MacAll A ∧ MacAll B ∧ A.all = B.all))
    (u0 u2 u4 u5 u6 u7 u8 u9 u10 u11 u12 u13 u14 u15 u16 u17 u18 u19 u20 u21 u22 u23 u24 u25 u26 u27 u28 u29 u30 u31 u32 u33 u34 u35 u36 u37 u38 u39 u40 u41 u42 u43 u44 u45 u46 u47 u48 u49 u50 u51 u52 u53 u54 u55 u56 u57 u58 u59 u60 u61 u62 u63 u64 u65 u66 u67 u68 u69 u70 u71 u72 u73 u74 u75 u76 u77 u78 u79 u80 u81 u82 : Value)
    (Hk : Hid (∀ (s20 s21 s22 s23 : Value) (w2 : World), Below w0.heap.size w0 w2 → Q .normal ⟨List.toArray (u0 :: Value.pointer (some ⟨g1, 0, none⟩) :: u2 :: Value.pointer (some ⟨g2, 0, none⟩) :: Value.string ⟨(diffM A B).toArray⟩ :: Value.int .i64 0 :: u6 :: u7 :: u8 :: u9 :: u10 :: u11 :: u12 :: u13 :: u14 :: u15 :: u16 :: u17 :: u18 :: u19 :: s20 :: s21 :: s22 :: s23 :: Value.string ⟨(diffM A B).toArray⟩ :: Value.int .i64 0 :: u26 :: u27 :: u28 :: u29 :: u30 :: u31 :: u32 :: u33 :: u34 :: u35 :: u36 :: u37 :: u38 :: u39 :: u40 :: u41 :: u42 :: u43 :: u44 :: u45 :: u46 :: u47 :: u48 :: u49 :: u50 :: u51 :: u52 :: u53 :: u54 :: u55 :: u56 :: u57 :: u58 :: u59 :: u60 :: u61 :: u62 :: u63 :: u64 :: u65 :: u66 :: u67 :: u68 :: u69 :: u70 :: u71 :: u72 :: u73 :: u74 :: u75 :: u76 :: u77 :: u78 :: u79 :: u80 :: u81 :: u82 :: []), []⟩ w2)) :
    Code.wp Tryz.prog (findR 3 (Tryz.f5.body.getD .skip)) Q ⟨List.toArray (u0 :: Value.pointer (some ⟨g1, 0, none⟩) :: u2 :: Value.pointer (some ⟨g2, 0, none⟩) :: u4 :: u5 :: u6 :: u7 :: u8 :: u9 :: u10 :: u11 :: u12 :: u13 :: u14 :: u15 :: u16 :: u17 :: u18 :: u19 :: u20 :: u21 :: u22 :: u23 :: u24 :: u25 :: u26 :: u27 :: u28 :: u29 :: u30 :: u31 :: u32 :: u33 :: u34 :: u35 :: u36 :: u37 :: u38 :: u39 :: u40 :: u41 :: u42 :: u43 :: u44 :: u45 :: u46 :: u47 :: u48 :: u49 :: u50 :: u51 :: u52 :: u53 :: u54 :: u55 :: u56 :: u57 :: u58 :: u59 :: u60 :: u61 :: u62 :: u63 :: u64 :: u65 :: u66 :: u67 :: u68 :: u69 :: u70 :: u71 :: u72 :: u73 :: u74 :: u75 :: u76 :: u77 :: u78 :: u79 :: u80 :: u81 :: u82 :: []), []⟩ w0 := by
  conv => arg 2; whnf
  have hd := diff_calls HA.out.1 HA.out.2.1 HA.out.2.2 HI.out.ta HI.out.tb HI.out.sa HI.out.sb
  obtain ⟨PX, hPX⟩ : ∃ P, X.ptr = P := ⟨_, rfl⟩
  obtain ⟨PY, hPY⟩ : ∃ P, Y.ptr = P := ⟨_, rfl⟩
  obtain ⟨S, hS⟩ : ∃ S : ByteArray, (⟨(diffM A B).toArray⟩ : ByteArray) = S := ⟨_, rfl⟩
  rw [hS] at hd Hk
  rw [hPX, hPY] at hd
  unfold macV at hd
  rw [mac_eta A PX, mac_eta B PY] at hd
  have Hd := Lib.hid hd; clear hd hS
  obtain ⟨⟨a0, a1, a14⟩, ⟨a2, a3, a4⟩, ⟨a5, a6, a7⟩, ⟨a8, a9, a10⟩, ⟨a11, a12, a13⟩⟩ := HI.out.a.cells
  rw [hPX] at a14
  obtain ⟨⟨b0, b1, b14⟩, ⟨b2, b3, b4⟩, ⟨b5, b6, b7⟩, ⟨b8, b9, b10⟩, ⟨b11, b12, b13⟩⟩ := HI.out.b.cells
  rw [hPY] at b14
  clear hPX hPY HI
  go_wp2_with ((with_reducible refine Hd.out.mono ?_); rintro e w2 ⟨rfl, hb⟩; have Hb := Lib.hid hb; clear hb)
  exact Hk.out _ _ _ _ _ Hb.out
set_option maxRecDepth 100000 in
set_option maxHeartbeats 16000000 in
theorem dw_reg4 (w0 : World) (g1 : Nat) (A : MacV) (X : Tr) {Q : Exit → Act → World → Prop}
    (HI : Hid (OneI w0 g1 A X)) (HA : Hid (MacAll A))
    (u0 u1 u2 u4 u5 u6 u7 u8 u9 u10 u11 u12 u13 u14 u15 u16 u17 u18 u19 u20 u21 u22 u23 u24 u25 u26 u27 u28 u29 u30 u31 u32 u33 u34 u35 u36 u37 u38 u39 u40 u41 u42 u43 u44 u45 u46 u47 u48 u49 u50 u51 u52 u53 u54 u55 u56 u57 u58 u59 u60 u61 u62 u63 u64 u65 u66 u67 u68 u69 u70 u71 u72 u73 u74 u75 u76 u77 u78 u79 u80 u81 u82 : Value)
    (Hk : Hid (∀ (s26 s27 s28 s29 : Value) (w2 : World), Below w0.heap.size w0 w2 → Q .normal ⟨List.toArray (u0 :: u1 :: u2 :: Value.pointer (some ⟨g1, 0, none⟩) :: u4 :: u5 :: Value.string ⟨(diffM A A).toArray⟩ :: Value.int .i64 0 :: u8 :: u9 :: u10 :: u11 :: u12 :: u13 :: u14 :: u15 :: u16 :: u17 :: u18 :: u19 :: u20 :: u21 :: u22 :: u23 :: u24 :: u25 :: s26 :: s27 :: s28 :: s29 :: Value.string ⟨(diffM A A).toArray⟩ :: Value.int .i64 0 :: u32 :: u33 :: u34 :: u35 :: u36 :: u37 :: u38 :: u39 :: u40 :: u41 :: u42 :: u43 :: u44 :: u45 :: u46 :: u47 :: u48 :: u49 :: u50 :: u51 :: u52 :: u53 :: u54 :: u55 :: u56 :: u57 :: u58 :: u59 :: u60 :: u61 :: u62 :: u63 :: u64 :: u65 :: u66 :: u67 :: u68 :: u69 :: u70 :: u71 :: u72 :: u73 :: u74 :: u75 :: u76 :: u77 :: u78 :: u79 :: u80 :: u81 :: u82 :: []), []⟩ w2)) :
    Code.wp Tryz.prog (findR 4 (Tryz.f5.body.getD .skip)) Q ⟨List.toArray (u0 :: u1 :: u2 :: Value.pointer (some ⟨g1, 0, none⟩) :: u4 :: u5 :: u6 :: u7 :: u8 :: u9 :: u10 :: u11 :: u12 :: u13 :: u14 :: u15 :: u16 :: u17 :: u18 :: u19 :: u20 :: u21 :: u22 :: u23 :: u24 :: u25 :: u26 :: u27 :: u28 :: u29 :: u30 :: u31 :: u32 :: u33 :: u34 :: u35 :: u36 :: u37 :: u38 :: u39 :: u40 :: u41 :: u42 :: u43 :: u44 :: u45 :: u46 :: u47 :: u48 :: u49 :: u50 :: u51 :: u52 :: u53 :: u54 :: u55 :: u56 :: u57 :: u58 :: u59 :: u60 :: u61 :: u62 :: u63 :: u64 :: u65 :: u66 :: u67 :: u68 :: u69 :: u70 :: u71 :: u72 :: u73 :: u74 :: u75 :: u76 :: u77 :: u78 :: u79 :: u80 :: u81 :: u82 :: []), []⟩ w0 := by
  conv => arg 2; whnf
  have hd := diff_calls HA.out HA.out rfl HI.out.t HI.out.t HI.out.s HI.out.s
  obtain ⟨PX, hPX⟩ : ∃ P, X.ptr = P := ⟨_, rfl⟩
  obtain ⟨S, hS⟩ : ∃ S : ByteArray, (⟨(diffM A A).toArray⟩ : ByteArray) = S := ⟨_, rfl⟩
  rw [hS] at hd Hk
  rw [hPX] at hd
  unfold macV at hd
  rw [mac_eta A PX] at hd
  have Hd := Lib.hid hd; clear hd hS
  obtain ⟨⟨a0, a1, a14⟩, ⟨a2, a3, a4⟩, ⟨a5, a6, a7⟩, ⟨a8, a9, a10⟩, ⟨a11, a12, a13⟩⟩ := HI.out.a.cells
  rw [hPX] at a14
  clear hPX HI
  go_wp2_with ((with_reducible refine Hd.out.mono ?_); rintro e w2 ⟨rfl, hb⟩; have Hb := Lib.hid hb; clear hb)
  exact Hk.out _ _ _ _ _ Hb.out
end Go.Proofs.YtkngadbeflepoaaGreat
namespace Go.Proofs.YtkngadbeflepoaaGreat
open Go.RowKit
set_option maxRecDepth 100000 in
set_option maxHeartbeats 16000000 in
theorem dw_reg7 (w0 : World) (g1 : Nat) (A B : MacV) (X : Tr) {Q : Exit → Act → World → Prop}
    (HI : Hid (OneI w0 g1 A X)) (HA : Hid (MacAll A ∧ MacAll B ∧ A.all = B.all))
    (u0 u2 u3 u5 u6 u7 u8 u9 u10 u11 u12 u13 u14 u15 u16 u17 u18 u19 u20 u21 u22 u23 u24 u25 u26 u27 u28 u29 u30 u31 u32 u33 u34 u35 u36 u37 u38 u39 u40 u41 u42 u43 u44 u45 u46 u47 u48 u49 u50 u51 u52 u53 u54 u55 u56 u57 u58 u59 u60 u61 u62 u63 u64 u65 u66 u67 u68 u69 u70 u71 u72 u73 u74 u75 u76 u77 u78 u79 u80 u81 u82 : Value)
    (Hk : Hid (∀ (s48 s49 s50 s51 s52 s53 : Value) (gy : Nat) (Z : Tr) (w2 : World), OneI w2 gy B Z ∧ Below w0.heap.size w0 w2 ∧ w0.heap.size ≤ gy → Q .normal ⟨List.toArray (u0 :: Value.pointer (some ⟨g1, 0, none⟩) :: u2 :: u3 :: Value.string ⟨(diffM A B).toArray⟩ :: u5 :: u6 :: u7 :: Value.pointer (some ⟨gy, 0, none⟩) :: Value.int .i64 0 :: u10 :: u11 :: u12 :: u13 :: u14 :: u15 :: u16 :: u17 :: u18 :: u19 :: u20 :: u21 :: u22 :: u23 :: u24 :: u25 :: u26 :: u27 :: u28 :: u29 :: u30 :: u31 :: u32 :: u33 :: u34 :: u35 :: u36 :: u37 :: u38 :: u39 :: u40 :: u41 :: u42 :: u43 :: u44 :: u45 :: u46 :: u47 :: s48 :: s49 :: s50 :: s51 :: s52 :: s53 :: u54 :: u55 :: u56 :: u57 :: u58 :: u59 :: u60 :: u61 :: u62 :: u63 :: u64 :: u65 :: u66 :: u67 :: u68 :: u69 :: u70 :: u71 :: u72 :: u73 :: u74 :: u75 :: u76 :: u77 :: u78 :: u79 :: u80 :: u81 :: u82 :: []), []⟩ w2)) :
    Code.wp Tryz.prog (findR 7 (Tryz.f5.body.getD .skip)) Q ⟨List.toArray (u0 :: Value.pointer (some ⟨g1, 0, none⟩) :: u2 :: u3 :: Value.string ⟨(diffM A B).toArray⟩ :: u5 :: u6 :: u7 :: u8 :: u9 :: u10 :: u11 :: u12 :: u13 :: u14 :: u15 :: u16 :: u17 :: u18 :: u19 :: u20 :: u21 :: u22 :: u23 :: u24 :: u25 :: u26 :: u27 :: u28 :: u29 :: u30 :: u31 :: u32 :: u33 :: u34 :: u35 :: u36 :: u37 :: u38 :: u39 :: u40 :: u41 :: u42 :: u43 :: u44 :: u45 :: u46 :: u47 :: u48 :: u49 :: u50 :: u51 :: u52 :: u53 :: u54 :: u55 :: u56 :: u57 :: u58 :: u59 :: u60 :: u61 :: u62 :: u63 :: u64 :: u65 :: u66 :: u67 :: u68 :: u69 :: u70 :: u71 :: u72 :: u73 :: u74 :: u75 :: u76 :: u77 :: u78 :: u79 :: u80 :: u81 :: u82 :: []), []⟩ w0 := by
  conv => arg 2; whnf
  have hd := patch_calls HA.out.1 HA.out.2.1 HA.out.2.2 HI.out.t HI.out.s
  obtain ⟨PX, hPX⟩ : ∃ P, X.ptr = P := ⟨_, rfl⟩
  obtain ⟨S, hS⟩ : ∃ S : ByteArray, (⟨(diffM A B).toArray⟩ : ByteArray) = S := ⟨_, rfl⟩
  rw [hS] at hd Hk ⊢
  rw [hPX] at hd
  unfold macV at hd
  rw [mac_eta A PX] at hd
  have Hd := Lib.hid hd; clear hd hS
  obtain ⟨⟨a0, a1, a14⟩, ⟨a2, a3, a4⟩, ⟨a5, a6, a7⟩, ⟨a8, a9, a10⟩, ⟨a11, a12, a13⟩⟩ := HI.out.a.cells
  rw [hPX] at a14
  clear hPX HI
  go_wp2_with ((with_reducible refine Hd.out.mono ?_); rintro e w2 ⟨Z, rfl, hZ, hZs, hb⟩; have HZ := Lib.hid (And.intro hZ (And.intro hZs hb)); clear hZ hZs hb; rw [mac_eta B Z.ptr])
  change Q _ _ (w2.alloc (.cells (macCells B Z.ptr).toArray 39))
  have hba := (Below.refl w2.heap.size w2).alloc (Nat.le_refl _) (.cells (macCells B Z.ptr).toArray 39)
  exact Hk.out _ _ _ _ _ _ _ Z _ ⟨⟨heap_alloc_new _ _, HZ.out.1.below hba, HZ.out.2.1⟩, HZ.out.2.2.trans (hba.mono HZ.out.2.2.size), HZ.out.2.2.size⟩
set_option maxRecDepth 100000 in
set_option maxHeartbeats 16000000 in
theorem dw_reg8 (w0 : World) (g1 : Nat) (A : MacV) (X : Tr) (s : ByteArray) (code : Nat) {Q : Exit → Act → World → Prop}
    (HI : Hid (OneI w0 g1 A X)) (HA : Hid (MacAll A ∧ s.data.toList.length ≤ maxLen ∧ patchM A s.data.toList = (macNone, code)))
    (u0 u1 u2 u5 u6 u7 u8 u9 u10 u11 u12 u13 u14 u15 u16 u17 u18 u19 u20 u21 u22 u23 u24 u25 u26 u27 u28 u29 u30 u31 u32 u33 u34 u35 u36 u37 u38 u39 u40 u41 u42 u43 u44 u45 u46 u47 u48 u49 u50 u51 u52 u53 u54 u55 u56 u57 u58 u59 u60 u61 u62 u63 u64 u65 u66 u67 u68 u69 u70 u71 u72 u73 u74 u75 u76 u77 u78 u79 u80 u81 u82 : Value)
    (Hk : Hid (∀ (s54 s55 s56 s57 s58 s59 : Value) (gy : Nat) (w2 : World), MacAt w2 gy macNone none ∧ Below w0.heap.size w0 w2 ∧ w0.heap.size ≤ gy → Q .normal ⟨List.toArray (u0 :: u1 :: u2 :: Value.pointer (some ⟨g1, 0, none⟩) :: Value.string s :: u5 :: u6 :: u7 :: u8 :: u9 :: Value.pointer (some ⟨gy, 0, none⟩) :: Value.int .i64 (code : Int) :: u12 :: u13 :: u14 :: u15 :: u16 :: u17 :: u18 :: u19 :: u20 :: u21 :: u22 :: u23 :: u24 :: u25 :: u26 :: u27 :: u28 :: u29 :: u30 :: u31 :: u32 :: u33 :: u34 :: u35 :: u36 :: u37 :: u38 :: u39 :: u40 :: u41 :: u42 :: u43 :: u44 :: u45 :: u46 :: u47 :: u48 :: u49 :: u50 :: u51 :: u52 :: u53 :: s54 :: s55 :: s56 :: s57 :: s58 :: s59 :: u60 :: u61 :: u62 :: u63 :: u64 :: u65 :: u66 :: u67 :: u68 :: u69 :: u70 :: u71 :: u72 :: u73 :: u74 :: u75 :: u76 :: u77 :: u78 :: u79 :: u80 :: u81 :: u82 :: []), []⟩ w2)) :
    Code.wp Tryz.prog (findR 8 (Tryz.f5.body.getD .skip)) Q ⟨List.toArray (u0 :: u1 :: u2 :: Value.pointer (some ⟨g1, 0, none⟩) :: Value.string s :: u5 :: u6 :: u7 :: u8 :: u9 :: u10 :: u11 :: u12 :: u13 :: u14 :: u15 :: u16 :: u17 :: u18 :: u19 :: u20 :: u21 :: u22 :: u23 :: u24 :: u25 :: u26 :: u27 :: u28 :: u29 :: u30 :: u31 :: u32 :: u33 :: u34 :: u35 :: u36 :: u37 :: u38 :: u39 :: u40 :: u41 :: u42 :: u43 :: u44 :: u45 :: u46 :: u47 :: u48 :: u49 :: u50 :: u51 :: u52 :: u53 :: u54 :: u55 :: u56 :: u57 :: u58 :: u59 :: u60 :: u61 :: u62 :: u63 :: u64 :: u65 :: u66 :: u67 :: u68 :: u69 :: u70 :: u71 :: u72 :: u73 :: u74 :: u75 :: u76 :: u77 :: u78 :: u79 :: u80 :: u81 :: u82 :: []), []⟩ w0 := by
  conv => arg 2; whnf
  have hd := patch_none HA.out.1 HA.out.2.1 HA.out.2.2 HI.out.t HI.out.s
  obtain ⟨PX, hPX⟩ : ∃ P, X.ptr = P := ⟨_, rfl⟩
  rw [hPX] at hd
  unfold macV at hd
  rw [mac_eta A PX] at hd
  have Hd := Lib.hid hd; clear hd
  obtain ⟨⟨a0, a1, a14⟩, ⟨a2, a3, a4⟩, ⟨a5, a6, a7⟩, ⟨a8, a9, a10⟩, ⟨a11, a12, a13⟩⟩ := HI.out.a.cells
  rw [hPX] at a14
  clear hPX HI
  go_wp2_with ((with_reducible refine Hd.out.mono ?_); rintro e w2 ⟨rfl, hb⟩; have Hb := Lib.hid hb; clear hb; rw [mac_eta macNone none])
  change Q _ _ (w2.alloc (.cells (macCells macNone none).toArray 39))
  have hba := (Below.refl w2.heap.size w2).alloc (Nat.le_refl _) (.cells (macCells macNone none).toArray 39)
  exact Hk.out _ _ _ _ _ _ _ _ ⟨heap_alloc_new _ _, Hb.out.trans (hba.mono Hb.out.size), Hb.out.size⟩
end Go.Proofs.YtkngadbeflepoaaGreat
namespace Go.Proofs.YtkngadbeflepoaaGreat
open Go.RowKit
set_option maxRecDepth 100000 in
set_option maxHeartbeats 16000000 in
theorem dw_reg9 (w0 : World) (gz gn : Nat) (B : MacV) (X Y : Tr) (S1 S2 : ByteArray) {Q : Exit → Act → World → Prop}
    (hQ : ∀ c a d v w, Q (.panic c) (Act.put a d v) w → Q (.panic c) a w) (HI : Hid (TwoI w0 gz gn B B X Y)) (HA : Hid (MacBy B)) (hz1 : (S1.size : Int) = 27) (hz2 : (S2.size : Int) = 19) (hx1 : (S1.extract 16 S1.size).toList = [3, 1, 1, 0, 0, 1, 1, 107, 1, 1, 118]) (hx2 : (S2.extract 16 S2.size).toList = [3, 0, 0])
    (u0 u1 u2 u5 u7 u10 u12 u13 u14 u15 u16 u17 u18 u19 u20 u21 u22 u23 u24 u25 u26 u27 u28 u29 u30 u31 u32 u33 u34 u35 u36 u37 u38 u39 u40 u41 u42 u43 u44 u45 u46 u47 u48 u49 u50 u51 u52 u53 u54 u55 u56 u57 u58 u59 u60 u61 u62 u63 u64 u65 u66 u67 u68 u69 u70 u71 u72 u73 u74 u75 u76 u77 u78 u79 u80 u81 u82 : Value)
    (Hk : Hid (∀ (s60 s61 s62 s63 s64 s65 s66 s67 s68 s69 s70 s71 s72 s73 s74 s75 s76 s77 s78 s79 s80 s81 : Value) (w2 : World), Below w0.heap.size w0 w2 → Q .normal ⟨List.toArray (Value.bool true :: u1 :: u2 :: Value.pointer (some ⟨gn, 0, none⟩) :: Value.string S1 :: u5 :: Value.string S2 :: u7 :: Value.pointer (some ⟨gz, 0, none⟩) :: Value.int .i64 0 :: u10 :: Value.int .i64 14 :: u12 :: u13 :: u14 :: u15 :: u16 :: u17 :: u18 :: u19 :: u20 :: u21 :: u22 :: u23 :: u24 :: u25 :: u26 :: u27 :: u28 :: u29 :: u30 :: u31 :: u32 :: u33 :: u34 :: u35 :: u36 :: u37 :: u38 :: u39 :: u40 :: u41 :: u42 :: u43 :: u44 :: u45 :: u46 :: u47 :: u48 :: u49 :: u50 :: u51 :: u52 :: u53 :: u54 :: u55 :: u56 :: u57 :: u58 :: u59 :: s60 :: s61 :: s62 :: s63 :: s64 :: s65 :: s66 :: s67 :: s68 :: s69 :: s70 :: s71 :: s72 :: s73 :: s74 :: s75 :: s76 :: s77 :: s78 :: s79 :: s80 :: s81 :: Value.bool true :: []), []⟩ w2)) :
    Code.wp Tryz.prog (findR 9 (Tryz.f5.body.getD .skip)) Q ⟨List.toArray (u0 :: u1 :: u2 :: Value.pointer (some ⟨gn, 0, none⟩) :: Value.string S1 :: u5 :: Value.string S2 :: u7 :: Value.pointer (some ⟨gz, 0, none⟩) :: Value.int .i64 0 :: u10 :: Value.int .i64 14 :: u12 :: u13 :: u14 :: u15 :: u16 :: u17 :: u18 :: u19 :: u20 :: u21 :: u22 :: u23 :: u24 :: u25 :: u26 :: u27 :: u28 :: u29 :: u30 :: u31 :: u32 :: u33 :: u34 :: u35 :: u36 :: u37 :: u38 :: u39 :: u40 :: u41 :: u42 :: u43 :: u44 :: u45 :: u46 :: u47 :: u48 :: u49 :: u50 :: u51 :: u52 :: u53 :: u54 :: u55 :: u56 :: u57 :: u58 :: u59 :: u60 :: u61 :: u62 :: u63 :: u64 :: u65 :: u66 :: u67 :: u68 :: u69 :: u70 :: u71 :: u72 :: u73 :: u74 :: u75 :: u76 :: u77 :: u78 :: u79 :: u80 :: u81 :: u82 :: []), []⟩ w0 := by
  conv => arg 2; whnf
  have Hloc := Lib.hid (fun (y : World) (hy : KeptW w0 y) => HI.out.below (KeptW.bel hy))
  obtain ⟨VX, hVX⟩ : ∃ V, macV B X.ptr = V := ⟨_, rfl⟩
  obtain ⟨VY, hVY⟩ : ∃ V, macV B Y.ptr = V := ⟨_, rfl⟩
  obtain ⟨SB, hSB⟩ : ∃ S : ByteArray, (⟨(macB B).toArray⟩ : ByteArray) = S := ⟨_, rfl⟩
  have HB1 := Lib.hid (fun (y : World) (hy : KeptW w0 y) => (show Calls Tryz.prog 12 #[VX] y fun e w' => e = .returned (.string SB) ∧ Below y.heap.size y w' by
    have h := Hloc.out y hy
    rw [← hVX, ← hSB]
    exact mbytes_any B X HA.out y h.ta h.sa))
  have HB2 := Lib.hid (fun (y : World) (hy : KeptW w0 y) => (show Calls Tryz.prog 12 #[VY] y fun e w' => e = .returned (.string SB) ∧ Below y.heap.size y w' by
    have h := Hloc.out y hy
    rw [← hVY, ← hSB]
    exact mbytes_any B Y HA.out y h.tb h.sb))
  have HVX := Lib.hid hVX; clear hVX
  have HVY := Lib.hid hVY; clear hVY
  clear hSB
  refine (wpIn_wide (n := 1)).1 ?_
  refine RegJ.wpIn_region_plan (F := Fence.wide) (KeptW w0) (.step 0 0 (.step 1 0 (.step 2 0 (.step 3 0 (.step 4 0 (.step 5 0 (.step 6 0 (.step 7 0 (.step 8 0 (.step 9 0 (.step 10 0 (.step 11 0 (.step 12 0 (.step 13 0 (.step 15 0 (.step 14 1 (.step 16 1 (.step 17 0 (.step 18 0 (.step 19 0 (.step 20 0 (.step 21 0 (.step 22 0 (.step 23 0 .nil)))))))))))))))))))))))) (by kernel_rfl) (by kernel_rfl) (by kernel_rfl) hQ ⟨rfl, rfl, rfl, Nat.le_refl _, fun _ _ => rfl⟩ ?_
  dsimp only [RegJ.pickJ, List.getElem?_cons_zero, List.getElem?_cons_succ]
  change RegJ.Can _ _ _ _ _ _ _ _ w0.drew
  have hkd : KeptW w0 w0.drew := ⟨rfl, rfl, rfl, Nat.le_refl _, fun _ _ => rfl⟩
  generalize w0.drew = v1 at *
  iterate 13 (refine RegJ.reads ?_; intro K hK; go_simp; (first | refine ⟨_, fun _ _ => rfl, hK _ ?_⟩ | refine hK _ ?_); clear hK K)
  refine RegJ.reads ?_
  intro K hK
  go_simp
  refine ⟨VX, fun y hy => ?_, hK _ ?_⟩
  · rw [← HVX.out]
    unfold macV
    rw [mac_eta B X.ptr]
    obtain ⟨⟨m0, m1, m14⟩, ⟨m2, m3, m4⟩, ⟨m5, m6, m7⟩, ⟨m8, m9, m10⟩, ⟨m11, m12, m13⟩⟩ := (Hloc.out y hy).a.cells
    go_simp
  clear hK K
  refine RegJ.reads ?_
  intro K hK
  go_simp
  refine ⟨VY, fun y hy => ?_, hK _ ?_⟩
  · rw [← HVY.out]
    unfold macV
    rw [mac_eta B Y.ptr]
    obtain ⟨⟨m0, m1, m14⟩, ⟨m2, m3, m4⟩, ⟨m5, m6, m7⟩, ⟨m8, m9, m10⟩, ⟨m11, m12, m13⟩⟩ := (Hloc.out y hy).b.cells
    go_simp
  clear hK K
  refine RegJ.turns (fun _ => trivial) ?_
  intro K K0 hK hK0
  go_simp
  refine ⟨trivial, ?_⟩
  refine (callsIn_wide.2 (HB1.out v1 (hkd))).mono ?_
  rintro e v2 ⟨rfl, hb7⟩
  have v2k : KeptW w0 v2 := KeptW.mono hkd hb7
  refine hK _ _ _ (fun _ h => h) v2k ?_
  clear hK K hK0 K0
  refine RegJ.turns (fun _ => trivial) ?_
  intro K K0 hK hK0
  go_simp
  refine ⟨trivial, ?_⟩
  refine (callsIn_wide.2 (HB2.out v2 (v2k))).mono ?_
  rintro e v3 ⟨rfl, hb7⟩
  have v3k : KeptW w0 v3 := KeptW.mono v2k hb7
  refine hK _ _ _ (fun _ h => h) v3k ?_
  clear hK K hK0 K0
  iterate 7 (refine RegJ.reads ?_; intro K hK; go_simp; (first | refine ⟨_, fun _ _ => rfl, hK _ ?_⟩ | refine hK _ ?_); clear hK K)
  refine RegJ.nil ?_
  exact Hk.out _ _ _ _ _ _ _ _ _ _ _ _ _ _ _ _ _ _ _ _ _ _ _ (KeptW.bel v3k)
end Go.Proofs.YtkngadbeflepoaaGreat
namespace Go.Proofs.YtkngadbeflepoaaGreat
open Go.RowKit
theorem cmds_one (w0 : World) (c : CmdV) : CmdsAt (w0.alloc (.cells (cmdCells c).toArray 52)) (some ⟨w0.heap.size, 0, none⟩) 1 [c] := by
  refine ⟨rfl, by unfold maxLen; omega, fun i x hi => ⟨w0.heap.size, 0, rfl, by rw [World.size_alloc]; omega, fun j v hj => ?_⟩⟩
  have h0 : i = 0 := by
    cases i with
    | zero => rfl
    | succ i => simp at hi
  subst h0
  simp only [List.getElem?_cons_zero, Option.some.injEq] at hi
  subst hi
  simp only [World.cell?, heap_alloc_new]
  rw [Nat.zero_add, Nat.zero_mul, Nat.zero_add]
  simpa using hj
set_option maxRecDepth 100000 in
set_option maxHeartbeats 16000000 in
theorem dwakes_any (w : World) : Calls Tryz.prog 5 #[] w fun e w' => e = .returned (.bool true) ∧ Below w.heap.size w w' := by
  have hnew : ∀ y : World, Calls Tryz.prog 9 #[.int .u8 7, .int .u8 3] y fun e w' => e = .returned (.tuple #[.agg (macCells dw0 none).toArray, .int .i64 0]) ∧ Below y.heap.size y w' := fun y => by
    have k := new_any 7 3 (by omega) (by omega) y
    rw [if_pos dw_sets] at k
    exact k
  obtain ⟨Mi, hMi⟩ : ∃ M, dw0 = M := ⟨_, rfl⟩
  rw [hMi, mac_eta] at hnew
  have Hnew := Lib.hid hnew; clear hnew
  have HMi := Lib.hid hMi; clear hMi
  go_enter Tryz.func5, Tryz.ntmps5
  go_upto_region 2 with ((with_reducible refine (Hnew.out _).mono ?_); rintro e wn ⟨rfl, hbn⟩; have HBn := Lib.hid hbn; clear hbn)
  change Code.wp _ _ _ _ (wn.alloc (.cells (macCells Mi none).toArray 39))
  have HI := Lib.hid (show OneI (wn.alloc (.cells (macCells Mi none).toArray 39)) wn.heap.size dw0 .nil from ⟨by rw [HMi.out]; exact heap_alloc_new _ _, trivial, (newM_parts 7 3).2.symm⟩)
  have HB := Lib.hid (HBn.out.alloc HBn.out.size (.cells (macCells Mi none).toArray 39))
  clear Hnew HBn
  generalize wn.alloc (.cells (macCells Mi none).toArray 39) = w0 at *
  generalize wn.heap.size = gm at *
  have hfo := fold_any dw0 .nil (some ⟨w0.heap.size, 0, none⟩) 1 1 [dwC] (w0.alloc (.cells (cmdCells dwC).toArray 52)) dw0_all.fit.ok trivial (newM_parts 7 3).2.symm (cmds_one w0 dwC)
  have hdw : macsDo dw0 [dwC] = dw1 := rfl
  rw [hdw, show (Tr.nil).ptr = none from rfl, HMi.out] at hfo
  unfold macV at hfo
  rw [mac_eta Mi none] at hfo
  have hcm : (cmdCells dwC).toArray = #[Value.int IntKind.u8 0, Value.int IntKind.u32 1, Value.int IntKind.u8 2, Value.string ⟨#[107]⟩, Value.string ⟨#[]⟩, Value.string ⟨#[118]⟩, Value.int IntKind.u8 0] := rfl
  rw [hcm] at hfo
  have Hfo := Lib.hid hfo; clear hfo hcm hdw
  obtain ⟨M1, hM1⟩ : ∃ M, dw1 = M := ⟨_, rfl⟩
  rw [hM1] at Hfo
  have HM1 := Lib.hid hM1; clear hM1
  obtain ⟨⟨m0, m1, m14⟩, ⟨m2, m3, m4⟩, ⟨m5, m6, m7⟩, ⟨m8, m9, m10⟩, ⟨m11, m12, m13⟩⟩ := HI.out.a.cells
  rw [HMi.out] at m0 m1 m2 m3 m4 m5 m6 m7 m8 m9 m10 m11 m12 m13
  rw [show (Tr.nil).ptr = none from rfl] at m14
  go_upto_region 3 with ((with_reducible refine Hfo.out.mono ?_); rintro e w1 ⟨X, rfl, hX, hXs, hb⟩; have HX := Lib.hid (And.intro hX (And.intro hXs hb)); clear hX hXs hb; rw [mac_eta M1 X.ptr])
  change Code.wp _ _ _ _ (w1.alloc (.cells (macCells M1 X.ptr).toArray 39))
  clear m0 m1 m2 m3 m4 m5 m6 m7 m8 m9 m10 m11 m12 m13 m14 Hfo
  have hb01 : Below w0.heap.size w0 (w1.alloc (.cells (macCells M1 X.ptr).toArray 39)) := (((Below.refl _ _).alloc (Nat.le_refl _) _).trans (HX.out.2.2.mono (by rw [World.size_alloc]; exact Nat.le_succ _))).alloc (by have := HX.out.2.2.size; rw [World.size_alloc] at this; omega) _
  have HI2 := Lib.hid (show TwoI (w1.alloc (.cells (macCells M1 X.ptr).toArray 39)) gm w1.heap.size dw0 dw1 .nil X from
    (HI.out.below hb01).two ⟨by rw [HM1.out]; exact heap_alloc_new _ _, HX.out.1.below ((Below.refl _ _).alloc (Nat.le_refl _) _), by rw [HM1.out]; exact HX.out.2.1⟩)
  have HB2 := Lib.hid (HB.out.trans (hb01.mono HB.out.size))
  clear HX HI HB hb01
  generalize w1.alloc (.cells (macCells M1 X.ptr).toArray 39) = w2 at *
  generalize w1.heap.size = gn at *
  have HA01 := Lib.hid (show MacAll dw0 ∧ MacAll dw1 ∧ dw0.all = dw1.all from ⟨dw0_all, dw1_all, dw_same⟩)
  clear HMi HM1
  go_upto_region 3 with fail
  refine dw_reg3 w2 gm gn dw0 dw1 .nil X HI2 HA01 _ _ _ _ _ _ _ _ _ _ _ _ _ _ _ _ _ _ _ _ _ _ _ _ _ _ _ _ _ _ _ _ _ _ _ _ _ _ _ _ _ _ _ _ _ _ _ _ _ _ _ _ _ _ _ _ _ _ _ _ _ _ _ _ _ _ _ _ _ _ _ _ _ _ _ _ _ _ _ _ _ (Lib.hid ?_)
  intro s20 s21 s22 s23 w3 hb3
  have HI3 := Lib.hid (HI2.out.below hb3)
  have HB3 := Lib.hid (HB2.out.trans (hb3.mono HB2.out.size))
  clear HI2 HB2 hb3
  go_upto_region 4 with fail
  refine dw_reg4 w3 gn dw1 X (Lib.hid ⟨HI3.out.b, HI3.out.tb, HI3.out.sb⟩) (Lib.hid dw1_all) _ _ _ _ _ _ _ _ _ _ _ _ _ _ _ _ _ _ _ _ _ _ _ _ _ _ _ _ _ _ _ _ _ _ _ _ _ _ _ _ _ _ _ _ _ _ _ _ _ _ _ _ _ _ _ _ _ _ _ _ _ _ _ _ _ _ _ _ _ _ _ _ _ _ _ _ _ _ _ _ _ _ (Lib.hid ?_)
  intro s26 s27 s28 s29 w4 hb4
  have HI4 := Lib.hid (HI3.out.below hb4)
  have HB4 := Lib.hid (HB3.out.trans (hb4.mono HB3.out.size))
  clear HI3 HB3 hb4
  obtain ⟨S1, hS1⟩ : ∃ S : ByteArray, (⟨(diffM dw0 dw1).toArray⟩ : ByteArray) = S := ⟨_, rfl⟩
  obtain ⟨S2, hS2⟩ : ∃ S : ByteArray, (⟨(diffM dw1 dw1).toArray⟩ : ByteArray) = S := ⟨_, rfl⟩
  have hz1 : (S1.size : Int) = 27 := by rw [← hS1]; exact congrArg (fun n : Nat => (n : Int)) dw_len1
  have hz2 : (S2.size : Int) = 19 := by rw [← hS2]; exact congrArg (fun n : Nat => (n : Int)) dw_len2
  have HS1 := Lib.hid hS1
  have HS2 := Lib.hid hS2
  rw [hS1, hS2]
  clear hS1 hS2
  go_upto_region 7 with fail
  rw [← HS1.out]
  refine dw_reg7 w4 gm dw0 dw1 .nil (Lib.hid ⟨HI4.out.a, HI4.out.ta, HI4.out.sa⟩) HA01 _ _ _ _ _ _ _ _ _ _ _ _ _ _ _ _ _ _ _ _ _ _ _ _ _ _ _ _ _ _ _ _ _ _ _ _ _ _ _ _ _ _ _ _ _ _ _ _ _ _ _ _ _ _ _ _ _ _ _ _ _ _ _ _ _ _ _ _ _ _ _ _ _ _ _ _ _ _ _ _ _ (Lib.hid ?_)
  intro s48 s49 s50 s51 s52 s53 gz Z w5 hU
  have HU5 := Lib.hid hU.1
  have HI5 := Lib.hid (HI4.out.below hU.2.1)
  have HB5 := Lib.hid (HB4.out.trans (hU.2.1.mono HB4.out.size))
  clear HI4 HB4 hU
  rw [HS1.out]
  go_upto_region 8 with fail
  refine dw_reg8 w5 gn dw1 X S1 14 (Lib.hid ⟨HI5.out.b, HI5.out.tb, HI5.out.sb⟩) (Lib.hid ⟨dw1_all, by rw [← HS1.out]; exact diffM_len dw0_all.fit dw1_all.fit, by rw [← HS1.out]; exact dw_clash⟩) _ _ _ _ _ _ _ _ _ _ _ _ _ _ _ _ _ _ _ _ _ _ _ _ _ _ _ _ _ _ _ _ _ _ _ _ _ _ _ _ _ _ _ _ _ _ _ _ _ _ _ _ _ _ _ _ _ _ _ _ _ _ _ _ _ _ _ _ _ _ _ _ _ _ _ _ _ _ _ _ _ (Lib.hid ?_)
  intro s54 s55 s56 s57 s58 s59 gv w6 hV
  have HU6 := Lib.hid (HU5.out.below hV.2.1)
  have HI6 := Lib.hid (HI5.out.below hV.2.1)
  have HB6 := Lib.hid (HB5.out.trans (hV.2.1.mono HB5.out.size))
  clear HI5 HB5 HU5 hV
  go_upto_region 9 with fail
  refine dw_reg9 w6 gz gn dw1 Z X S1 S2 (fun _ _ d _ _ h => by cases d <;> exact h) (Lib.hid (HU6.out.two ⟨HI6.out.b, HI6.out.tb, HI6.out.sb⟩)) (Lib.hid (macFit_by dw1_all.fit)) hz1 hz2 (by rw [← HS1.out]; exact dw_ext1) (by rw [← HS2.out]; exact dw_ext2) _ _ _ _ _ _ _ _ _ _ _ _ _ _ _ _ _ _ _ _ _ _ _ _ _ _ _ _ _ _ _ _ _ _ _ _ _ _ _ _ _ _ _ _ _ _ _ _ _ _ _ _ _ _ _ _ _ _ _ _ _ _ _ _ _ _ _ _ _ _ _ _ _ _ _ _ _ (Lib.hid ?_)
  intro s60 s61 s62 s63 s64 s65 s66 s67 s68 s69 s70 s71 s72 s73 s74 s75 s76 s77 s78 s79 s80 s81 w7 hb7
  have HB7 := Lib.hid (HB6.out.trans (hb7.mono HB6.out.size))
  clear HI6 HB6 HU6 HS1 HS2 HA01 hb7
  go_wp2_with fail
  go_ret
  exact ⟨rfl, HB7.out⟩
end Go.Proofs.YtkngadbeflepoaaGreat
