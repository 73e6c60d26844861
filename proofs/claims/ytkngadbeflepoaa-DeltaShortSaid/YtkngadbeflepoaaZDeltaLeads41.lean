/- Deltas: Patch, its last stores, each by itself. No condition. -/
import Derived.Test.YtkngadbeflepoaaZDeltaLeads39
import Derived.Test.YtkngadbeflepoaaZDeltaLeads16
namespace Go.Proofs.Ytkngadbeflepoaa
open Go.RowKit
set_option maxRecDepth 100000 in
set_option maxHeartbeats 16000000 in
theorem pa_reg11 (w0 : World) (g : Nat) (e : Int) {Q : Exit → Act → World → Prop}
    (HR : Hid (MacAt w0 g macNone none))
    (u0 u1 u2 u3 u5 u6 u7 u8 u9 u10 u11 u12 u13 u15 u16 u17 u18 u19 u20 u21 u22 u23 u24 u25 u26 u27 u28 u29 u30 u31 u32 u33 u34 u35 u36 u37 u38 u39 u40 u41 u42 u43 u44 u45 u46 u47 u48 u49 u50 u51 u52 u53 u54 u55 u56 u57 u58 u59 u60 u61 u62 u63 u64 u65 u66 u67 u68 u69 u70 u71 u72 u73 u74 u75 : Value)
    (Hk : Hid (∀ (s41 s42 : Value) (w2 : World), w2 = rowSt w0 g 0 (macCells macNone none) → Q .normal ⟨List.toArray (u0 :: u1 :: u2 :: u3 :: Value.pointer (some ⟨g, 0, none⟩) :: Value.int .i64 e :: u6 :: u7 :: u8 :: u9 :: u10 :: u11 :: u12 :: u13 :: Value.int .i64 e :: u15 :: u16 :: u17 :: u18 :: u19 :: u20 :: u21 :: u22 :: u23 :: u24 :: u25 :: u26 :: u27 :: u28 :: u29 :: u30 :: u31 :: u32 :: u33 :: u34 :: u35 :: u36 :: u37 :: u38 :: u39 :: u40 :: s41 :: s42 :: u43 :: u44 :: u45 :: u46 :: u47 :: u48 :: u49 :: u50 :: u51 :: u52 :: u53 :: u54 :: u55 :: u56 :: u57 :: u58 :: u59 :: u60 :: u61 :: u62 :: u63 :: u64 :: u65 :: u66 :: u67 :: u68 :: u69 :: u70 :: u71 :: u72 :: u73 :: u74 :: u75 :: []), []⟩ w2)) :
    Code.wp Try.prog (findR 11 (Try.f49.body.getD .skip)) Q ⟨List.toArray (u0 :: u1 :: u2 :: u3 :: Value.pointer (some ⟨g, 0, none⟩) :: u5 :: u6 :: u7 :: u8 :: u9 :: u10 :: u11 :: u12 :: u13 :: Value.int .i64 e :: u15 :: u16 :: u17 :: u18 :: u19 :: u20 :: u21 :: u22 :: u23 :: u24 :: u25 :: u26 :: u27 :: u28 :: u29 :: u30 :: u31 :: u32 :: u33 :: u34 :: u35 :: u36 :: u37 :: u38 :: u39 :: u40 :: u41 :: u42 :: u43 :: u44 :: u45 :: u46 :: u47 :: u48 :: u49 :: u50 :: u51 :: u52 :: u53 :: u54 :: u55 :: u56 :: u57 :: u58 :: u59 :: u60 :: u61 :: u62 :: u63 :: u64 :: u65 :: u66 :: u67 :: u68 :: u69 :: u70 :: u71 :: u72 :: u73 :: u74 :: u75 :: []), []⟩ w0 := by
  conv => arg 2; whnf
  obtain ⟨⟨m0, m1, m14⟩, ⟨m2, m3, m4⟩, ⟨m5, m6, m7⟩, ⟨m8, m9, m10⟩, ⟨m11, m12, m13⟩⟩ := HR.out.cells
  have q0 := HR.out.thawed 0
  have q1 := HR.out.thawed 1
  have q2 := HR.out.thawed 2
  have q3 := HR.out.thawed 3
  have q4 := HR.out.thawed 4
  have q5 := HR.out.thawed 5
  have q6 := HR.out.thawed 6
  have q7 := HR.out.thawed 7
  have q8 := HR.out.thawed 8
  have q9 := HR.out.thawed 9
  have q10 := HR.out.thawed 10
  have q11 := HR.out.thawed 11
  have q12 := HR.out.thawed 12
  have q13 := HR.out.thawed 13
  have q14 := HR.out.thawed 14
  go_wp2_with fail
  exact Hk.out _ _ _ rfl
set_option maxRecDepth 100000 in
set_option maxHeartbeats 16000000 in
theorem pa_reg15 (w0 : World) (g : Nat) (e : Int) {Q : Exit → Act → World → Prop}
    (HR : Hid (MacAt w0 g macNone none))
    (u0 u1 u2 u3 u5 u6 u7 u8 u9 u10 u11 u12 u13 u14 u16 u17 u18 u19 u20 u21 u22 u23 u24 u25 u26 u27 u28 u29 u30 u31 u32 u33 u34 u35 u36 u37 u38 u39 u40 u41 u42 u43 u44 u45 u46 u47 u48 u49 u50 u51 u52 u53 u54 u55 u56 u57 u58 u59 u60 u61 u62 u63 u64 u65 u66 u67 u68 u69 u70 u71 u72 u73 u74 u75 : Value)
    (Hk : Hid (∀ (s48 s49 : Value) (w2 : World), w2 = rowSt w0 g 0 (macCells macNone none) → Q .normal ⟨List.toArray (u0 :: u1 :: u2 :: u3 :: Value.pointer (some ⟨g, 0, none⟩) :: Value.int .i64 e :: u6 :: u7 :: u8 :: u9 :: u10 :: u11 :: u12 :: u13 :: u14 :: Value.int .i64 e :: u16 :: u17 :: u18 :: u19 :: u20 :: u21 :: u22 :: u23 :: u24 :: u25 :: u26 :: u27 :: u28 :: u29 :: u30 :: u31 :: u32 :: u33 :: u34 :: u35 :: u36 :: u37 :: u38 :: u39 :: u40 :: u41 :: u42 :: u43 :: u44 :: u45 :: u46 :: u47 :: s48 :: s49 :: u50 :: u51 :: u52 :: u53 :: u54 :: u55 :: u56 :: u57 :: u58 :: u59 :: u60 :: u61 :: u62 :: u63 :: u64 :: u65 :: u66 :: u67 :: u68 :: u69 :: u70 :: u71 :: u72 :: u73 :: u74 :: u75 :: []), []⟩ w2)) :
    Code.wp Try.prog (findR 15 (Try.f49.body.getD .skip)) Q ⟨List.toArray (u0 :: u1 :: u2 :: u3 :: Value.pointer (some ⟨g, 0, none⟩) :: u5 :: u6 :: u7 :: u8 :: u9 :: u10 :: u11 :: u12 :: u13 :: u14 :: Value.int .i64 e :: u16 :: u17 :: u18 :: u19 :: u20 :: u21 :: u22 :: u23 :: u24 :: u25 :: u26 :: u27 :: u28 :: u29 :: u30 :: u31 :: u32 :: u33 :: u34 :: u35 :: u36 :: u37 :: u38 :: u39 :: u40 :: u41 :: u42 :: u43 :: u44 :: u45 :: u46 :: u47 :: u48 :: u49 :: u50 :: u51 :: u52 :: u53 :: u54 :: u55 :: u56 :: u57 :: u58 :: u59 :: u60 :: u61 :: u62 :: u63 :: u64 :: u65 :: u66 :: u67 :: u68 :: u69 :: u70 :: u71 :: u72 :: u73 :: u74 :: u75 :: []), []⟩ w0 := by
  conv => arg 2; whnf
  obtain ⟨⟨m0, m1, m14⟩, ⟨m2, m3, m4⟩, ⟨m5, m6, m7⟩, ⟨m8, m9, m10⟩, ⟨m11, m12, m13⟩⟩ := HR.out.cells
  have q0 := HR.out.thawed 0
  have q1 := HR.out.thawed 1
  have q2 := HR.out.thawed 2
  have q3 := HR.out.thawed 3
  have q4 := HR.out.thawed 4
  have q5 := HR.out.thawed 5
  have q6 := HR.out.thawed 6
  have q7 := HR.out.thawed 7
  have q8 := HR.out.thawed 8
  have q9 := HR.out.thawed 9
  have q10 := HR.out.thawed 10
  have q11 := HR.out.thawed 11
  have q12 := HR.out.thawed 12
  have q13 := HR.out.thawed 13
  have q14 := HR.out.thawed 14
  go_wp2_with fail
  exact Hk.out _ _ _ rfl
set_option maxRecDepth 100000 in
set_option maxHeartbeats 16000000 in
theorem pa_reg20 (w0 : World) (g : Nat) (e : Int) {Q : Exit → Act → World → Prop}
    (HR : Hid (MacAt w0 g macNone none))
    (u0 u1 u2 u3 u5 u6 u7 u8 u9 u10 u11 u12 u13 u14 u15 u16 u18 u19 u20 u21 u22 u23 u24 u25 u26 u27 u28 u29 u30 u31 u32 u33 u34 u35 u36 u37 u38 u39 u40 u41 u42 u43 u44 u45 u46 u47 u48 u49 u50 u51 u52 u53 u54 u55 u56 u57 u58 u59 u60 u61 u62 u63 u64 u65 u66 u67 u68 u69 u70 u71 u72 u73 u74 u75 : Value)
    (Hk : Hid (∀ (s67 s68 : Value) (w2 : World), w2 = rowSt w0 g 0 (macCells macNone none) → Q .normal ⟨List.toArray (u0 :: u1 :: u2 :: u3 :: Value.pointer (some ⟨g, 0, none⟩) :: Value.int .i64 e :: u6 :: u7 :: u8 :: u9 :: u10 :: u11 :: u12 :: u13 :: u14 :: u15 :: u16 :: Value.int .i64 e :: u18 :: u19 :: u20 :: u21 :: u22 :: u23 :: u24 :: u25 :: u26 :: u27 :: u28 :: u29 :: u30 :: u31 :: u32 :: u33 :: u34 :: u35 :: u36 :: u37 :: u38 :: u39 :: u40 :: u41 :: u42 :: u43 :: u44 :: u45 :: u46 :: u47 :: u48 :: u49 :: u50 :: u51 :: u52 :: u53 :: u54 :: u55 :: u56 :: u57 :: u58 :: u59 :: u60 :: u61 :: u62 :: u63 :: u64 :: u65 :: u66 :: s67 :: s68 :: u69 :: u70 :: u71 :: u72 :: u73 :: u74 :: u75 :: []), []⟩ w2)) :
    Code.wp Try.prog (findR 20 (Try.f49.body.getD .skip)) Q ⟨List.toArray (u0 :: u1 :: u2 :: u3 :: Value.pointer (some ⟨g, 0, none⟩) :: u5 :: u6 :: u7 :: u8 :: u9 :: u10 :: u11 :: u12 :: u13 :: u14 :: u15 :: u16 :: Value.int .i64 e :: u18 :: u19 :: u20 :: u21 :: u22 :: u23 :: u24 :: u25 :: u26 :: u27 :: u28 :: u29 :: u30 :: u31 :: u32 :: u33 :: u34 :: u35 :: u36 :: u37 :: u38 :: u39 :: u40 :: u41 :: u42 :: u43 :: u44 :: u45 :: u46 :: u47 :: u48 :: u49 :: u50 :: u51 :: u52 :: u53 :: u54 :: u55 :: u56 :: u57 :: u58 :: u59 :: u60 :: u61 :: u62 :: u63 :: u64 :: u65 :: u66 :: u67 :: u68 :: u69 :: u70 :: u71 :: u72 :: u73 :: u74 :: u75 :: []), []⟩ w0 := by
  conv => arg 2; whnf
  obtain ⟨⟨m0, m1, m14⟩, ⟨m2, m3, m4⟩, ⟨m5, m6, m7⟩, ⟨m8, m9, m10⟩, ⟨m11, m12, m13⟩⟩ := HR.out.cells
  have q0 := HR.out.thawed 0
  have q1 := HR.out.thawed 1
  have q2 := HR.out.thawed 2
  have q3 := HR.out.thawed 3
  have q4 := HR.out.thawed 4
  have q5 := HR.out.thawed 5
  have q6 := HR.out.thawed 6
  have q7 := HR.out.thawed 7
  have q8 := HR.out.thawed 8
  have q9 := HR.out.thawed 9
  have q10 := HR.out.thawed 10
  have q11 := HR.out.thawed 11
  have q12 := HR.out.thawed 12
  have q13 := HR.out.thawed 13
  have q14 := HR.out.thawed 14
  go_wp2_with fail
  exact Hk.out _ _ _ rfl
set_option maxRecDepth 100000 in
set_option maxHeartbeats 16000000 in
theorem pa_reg17 (w0 : World) (g : Nat) {Q : Exit → Act → World → Prop}
    (HR : Hid (MacAt w0 g macNone none))
    (u0 u1 u2 u3 u5 u6 u7 u8 u9 u10 u11 u12 u13 u14 u15 u16 u17 u18 u19 u20 u21 u22 u23 u24 u25 u26 u27 u28 u29 u30 u31 u32 u33 u34 u35 u36 u37 u38 u39 u40 u41 u42 u43 u44 u45 u46 u47 u48 u49 u50 u51 u52 u53 u54 u55 u56 u57 u58 u59 u60 u61 u62 u63 u64 u65 u66 u67 u68 u69 u70 u71 u72 u73 u74 u75 : Value)
    (Hk : Hid (∀ (s55 : Value) (w2 : World), w2 = rowSt w0 g 0 (macCells macNone none) → Q .normal ⟨List.toArray (u0 :: u1 :: u2 :: u3 :: Value.pointer (some ⟨g, 0, none⟩) :: Value.int .i64 14 :: u6 :: u7 :: u8 :: u9 :: u10 :: u11 :: u12 :: u13 :: u14 :: u15 :: u16 :: u17 :: u18 :: u19 :: u20 :: u21 :: u22 :: u23 :: u24 :: u25 :: u26 :: u27 :: u28 :: u29 :: u30 :: u31 :: u32 :: u33 :: u34 :: u35 :: u36 :: u37 :: u38 :: u39 :: u40 :: u41 :: u42 :: u43 :: u44 :: u45 :: u46 :: u47 :: u48 :: u49 :: u50 :: u51 :: u52 :: u53 :: u54 :: s55 :: u56 :: u57 :: u58 :: u59 :: u60 :: u61 :: u62 :: u63 :: u64 :: u65 :: u66 :: u67 :: u68 :: u69 :: u70 :: u71 :: u72 :: u73 :: u74 :: u75 :: []), []⟩ w2)) :
    Code.wp Try.prog (findR 17 (Try.f49.body.getD .skip)) Q ⟨List.toArray (u0 :: u1 :: u2 :: u3 :: Value.pointer (some ⟨g, 0, none⟩) :: u5 :: u6 :: u7 :: u8 :: u9 :: u10 :: u11 :: u12 :: u13 :: u14 :: u15 :: u16 :: u17 :: u18 :: u19 :: u20 :: u21 :: u22 :: u23 :: u24 :: u25 :: u26 :: u27 :: u28 :: u29 :: u30 :: u31 :: u32 :: u33 :: u34 :: u35 :: u36 :: u37 :: u38 :: u39 :: u40 :: u41 :: u42 :: u43 :: u44 :: u45 :: u46 :: u47 :: u48 :: u49 :: u50 :: u51 :: u52 :: u53 :: u54 :: u55 :: u56 :: u57 :: u58 :: u59 :: u60 :: u61 :: u62 :: u63 :: u64 :: u65 :: u66 :: u67 :: u68 :: u69 :: u70 :: u71 :: u72 :: u73 :: u74 :: u75 :: []), []⟩ w0 := by
  conv => arg 2; whnf
  obtain ⟨⟨m0, m1, m14⟩, ⟨m2, m3, m4⟩, ⟨m5, m6, m7⟩, ⟨m8, m9, m10⟩, ⟨m11, m12, m13⟩⟩ := HR.out.cells
  have q0 := HR.out.thawed 0
  have q1 := HR.out.thawed 1
  have q2 := HR.out.thawed 2
  have q3 := HR.out.thawed 3
  have q4 := HR.out.thawed 4
  have q5 := HR.out.thawed 5
  have q6 := HR.out.thawed 6
  have q7 := HR.out.thawed 7
  have q8 := HR.out.thawed 8
  have q9 := HR.out.thawed 9
  have q10 := HR.out.thawed 10
  have q11 := HR.out.thawed 11
  have q12 := HR.out.thawed 12
  have q13 := HR.out.thawed 13
  have q14 := HR.out.thawed 14
  go_wp2_with fail
  exact Hk.out _ _ rfl
set_option maxRecDepth 100000 in
set_option maxHeartbeats 16000000 in
theorem pa_reg22 (w0 : World) (g : Nat) {Q : Exit → Act → World → Prop}
    (HR : Hid (MacAt w0 g macNone none))
    (u0 u1 u2 u3 u5 u6 u7 u8 u9 u10 u11 u12 u13 u14 u15 u16 u17 u18 u19 u20 u21 u22 u23 u24 u25 u26 u27 u28 u29 u30 u31 u32 u33 u34 u35 u36 u37 u38 u39 u40 u41 u42 u43 u44 u45 u46 u47 u48 u49 u50 u51 u52 u53 u54 u55 u56 u57 u58 u59 u60 u61 u62 u63 u64 u65 u66 u67 u68 u69 u70 u71 u72 u73 u74 u75 : Value)
    (Hk : Hid (∀ (s74 : Value) (w2 : World), w2 = rowSt w0 g 0 (macCells macNone none) → Q .normal ⟨List.toArray (u0 :: u1 :: u2 :: u3 :: Value.pointer (some ⟨g, 0, none⟩) :: Value.int .i64 5 :: u6 :: u7 :: u8 :: u9 :: u10 :: u11 :: u12 :: u13 :: u14 :: u15 :: u16 :: u17 :: u18 :: u19 :: u20 :: u21 :: u22 :: u23 :: u24 :: u25 :: u26 :: u27 :: u28 :: u29 :: u30 :: u31 :: u32 :: u33 :: u34 :: u35 :: u36 :: u37 :: u38 :: u39 :: u40 :: u41 :: u42 :: u43 :: u44 :: u45 :: u46 :: u47 :: u48 :: u49 :: u50 :: u51 :: u52 :: u53 :: u54 :: u55 :: u56 :: u57 :: u58 :: u59 :: u60 :: u61 :: u62 :: u63 :: u64 :: u65 :: u66 :: u67 :: u68 :: u69 :: u70 :: u71 :: u72 :: u73 :: s74 :: u75 :: []), []⟩ w2)) :
    Code.wp Try.prog (findR 22 (Try.f49.body.getD .skip)) Q ⟨List.toArray (u0 :: u1 :: u2 :: u3 :: Value.pointer (some ⟨g, 0, none⟩) :: u5 :: u6 :: u7 :: u8 :: u9 :: u10 :: u11 :: u12 :: u13 :: u14 :: u15 :: u16 :: u17 :: u18 :: u19 :: u20 :: u21 :: u22 :: u23 :: u24 :: u25 :: u26 :: u27 :: u28 :: u29 :: u30 :: u31 :: u32 :: u33 :: u34 :: u35 :: u36 :: u37 :: u38 :: u39 :: u40 :: u41 :: u42 :: u43 :: u44 :: u45 :: u46 :: u47 :: u48 :: u49 :: u50 :: u51 :: u52 :: u53 :: u54 :: u55 :: u56 :: u57 :: u58 :: u59 :: u60 :: u61 :: u62 :: u63 :: u64 :: u65 :: u66 :: u67 :: u68 :: u69 :: u70 :: u71 :: u72 :: u73 :: u74 :: u75 :: []), []⟩ w0 := by
  conv => arg 2; whnf
  obtain ⟨⟨m0, m1, m14⟩, ⟨m2, m3, m4⟩, ⟨m5, m6, m7⟩, ⟨m8, m9, m10⟩, ⟨m11, m12, m13⟩⟩ := HR.out.cells
  have q0 := HR.out.thawed 0
  have q1 := HR.out.thawed 1
  have q2 := HR.out.thawed 2
  have q3 := HR.out.thawed 3
  have q4 := HR.out.thawed 4
  have q5 := HR.out.thawed 5
  have q6 := HR.out.thawed 6
  have q7 := HR.out.thawed 7
  have q8 := HR.out.thawed 8
  have q9 := HR.out.thawed 9
  have q10 := HR.out.thawed 10
  have q11 := HR.out.thawed 11
  have q12 := HR.out.thawed 12
  have q13 := HR.out.thawed 13
  have q14 := HR.out.thawed 14
  go_wp2_with fail
  exact Hk.out _ _ rfl
set_option maxRecDepth 100000 in
set_option maxHeartbeats 16000000 in
theorem pa_reg23 (w0 : World) (g gb : Nat) (B : MacV) (P : Option Addr) {Q : Exit → Act → World → Prop}
    (HR : Hid (MacAt w0 g macNone none)) (HP : Hid (MacAt w0 gb B P))
    (u0 u1 u2 u3 u5 u6 u7 u8 u9 u10 u11 u12 u13 u14 u15 u17 u18 u19 u20 u21 u22 u23 u24 u25 u26 u27 u28 u29 u30 u31 u32 u33 u34 u35 u36 u37 u38 u39 u40 u41 u42 u43 u44 u45 u46 u47 u48 u49 u50 u51 u52 u53 u54 u55 u56 u57 u58 u59 u60 u61 u62 u63 u64 u65 u66 u67 u68 u69 u70 u71 u72 u73 u74 u75 : Value)
    (Hk : Hid (∀ (s75 : Value) (w2 : World), w2 = rowSt w0 g 0 (macCells B P) → Q .normal ⟨List.toArray (u0 :: u1 :: u2 :: u3 :: Value.pointer (some ⟨g, 0, none⟩) :: Value.int .i64 0 :: u6 :: u7 :: u8 :: u9 :: u10 :: u11 :: u12 :: u13 :: u14 :: u15 :: Value.pointer (some ⟨gb, 0, none⟩) :: u17 :: u18 :: u19 :: u20 :: u21 :: u22 :: u23 :: u24 :: u25 :: u26 :: u27 :: u28 :: u29 :: u30 :: u31 :: u32 :: u33 :: u34 :: u35 :: u36 :: u37 :: u38 :: u39 :: u40 :: u41 :: u42 :: u43 :: u44 :: u45 :: u46 :: u47 :: u48 :: u49 :: u50 :: u51 :: u52 :: u53 :: u54 :: u55 :: u56 :: u57 :: u58 :: u59 :: u60 :: u61 :: u62 :: u63 :: u64 :: u65 :: u66 :: u67 :: u68 :: u69 :: u70 :: u71 :: u72 :: u73 :: u74 :: s75 :: []), []⟩ w2)) :
    Code.wp Try.prog (findR 23 (Try.f49.body.getD .skip)) Q ⟨List.toArray (u0 :: u1 :: u2 :: u3 :: Value.pointer (some ⟨g, 0, none⟩) :: u5 :: u6 :: u7 :: u8 :: u9 :: u10 :: u11 :: u12 :: u13 :: u14 :: u15 :: Value.pointer (some ⟨gb, 0, none⟩) :: u17 :: u18 :: u19 :: u20 :: u21 :: u22 :: u23 :: u24 :: u25 :: u26 :: u27 :: u28 :: u29 :: u30 :: u31 :: u32 :: u33 :: u34 :: u35 :: u36 :: u37 :: u38 :: u39 :: u40 :: u41 :: u42 :: u43 :: u44 :: u45 :: u46 :: u47 :: u48 :: u49 :: u50 :: u51 :: u52 :: u53 :: u54 :: u55 :: u56 :: u57 :: u58 :: u59 :: u60 :: u61 :: u62 :: u63 :: u64 :: u65 :: u66 :: u67 :: u68 :: u69 :: u70 :: u71 :: u72 :: u73 :: u74 :: u75 :: []), []⟩ w0 := by
  conv => arg 2; whnf
  obtain ⟨⟨m0, m1, m14⟩, ⟨m2, m3, m4⟩, ⟨m5, m6, m7⟩, ⟨m8, m9, m10⟩, ⟨m11, m12, m13⟩⟩ := HR.out.cells
  have q0 := HR.out.thawed 0
  have q1 := HR.out.thawed 1
  have q2 := HR.out.thawed 2
  have q3 := HR.out.thawed 3
  have q4 := HR.out.thawed 4
  have q5 := HR.out.thawed 5
  have q6 := HR.out.thawed 6
  have q7 := HR.out.thawed 7
  have q8 := HR.out.thawed 8
  have q9 := HR.out.thawed 9
  have q10 := HR.out.thawed 10
  have q11 := HR.out.thawed 11
  have q12 := HR.out.thawed 12
  have q13 := HR.out.thawed 13
  have q14 := HR.out.thawed 14
  obtain ⟨⟨p0, p1, p14⟩, ⟨p2, p3, p4⟩, ⟨p5, p6, p7⟩, ⟨p8, p9, p10⟩, ⟨p11, p12, p13⟩⟩ := HP.out.cells
  go_wp2_with fail
  exact Hk.out _ _ rfl
end Go.Proofs.Ytkngadbeflepoaa
