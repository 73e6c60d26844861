/- Deltas: DeltaLeads, regions that call Patch. Condition: the machines may be told. -/
import Derived.Test.YtkngadbeflepoaaZDeltaLeads43
import Derived.Test.YtkngadbeflepoaaZDeltaLeads16
import Derived.Test.YtkngadbeflepoaaZDeltaLeads6
namespace Go.Proofs.Ytkngadbeflepoaa
open Go.RowKit
set_option maxRecDepth 100000 in
set_option maxHeartbeats 16000000 in
theorem lead_reg14 (w0 : World) (g1 : Nat) (A B : MacV) (X : Tr) {Q : Exit → Act → World → Prop}
    (HI : Hid (OneI w0 g1 A X)) (HA : Hid (MacAll A ∧ MacAll B ∧ A.all = B.all))
    (u0 u1 u2 u3 u4 u5 u6 u7 u8 u9 u10 u11 u13 u14 u15 u16 u17 u19 u20 u21 u22 u23 u24 u25 u26 u27 u28 u29 u30 u31 u32 u33 u34 u35 u36 u37 u38 u39 u40 u41 u42 u43 u44 u45 u46 u47 u48 u49 u50 u51 u52 u53 u54 u55 u56 u57 u58 u59 u60 u61 u62 u63 u64 u65 u66 u67 u68 u69 u70 u71 u72 u73 u74 u75 u76 u77 u78 u79 u80 u81 u82 u83 u84 u85 u86 u87 u88 u89 u90 u91 u92 u93 u94 u95 u96 u97 u98 u99 u100 u101 u102 u103 u104 u105 u106 u107 u108 u109 u110 u111 u112 u113 u114 u115 u116 u117 u118 u119 u120 u121 u122 u123 u124 u125 u126 u127 u128 u129 u130 u131 u132 u133 u134 u135 u136 u137 u138 u139 u140 u141 u142 u143 u144 u145 u146 u147 u148 u149 u150 u151 u152 u153 u154 u155 : Value)
    (Hk : Hid (∀ (s73 s74 s75 s76 s77 s78 : Value) (gy : Nat) (Z : Tr) (w2 : World), OneI w2 gy B Z ∧ Below w0.heap.size w0 w2 ∧ w0.heap.size ≤ gy → Q .normal ⟨List.toArray (u0 :: u1 :: u2 :: u3 :: u4 :: u5 :: u6 :: u7 :: u8 :: u9 :: u10 :: u11 :: Value.pointer (some ⟨g1, 0, none⟩) :: u13 :: u14 :: u15 :: u16 :: u17 :: Value.string ⟨(diffM A B).toArray⟩ :: u19 :: Value.pointer (some ⟨gy, 0, none⟩) :: Value.int .i64 0 :: u22 :: u23 :: u24 :: u25 :: u26 :: u27 :: u28 :: u29 :: u30 :: u31 :: u32 :: u33 :: u34 :: u35 :: u36 :: u37 :: u38 :: u39 :: u40 :: u41 :: u42 :: u43 :: u44 :: u45 :: u46 :: u47 :: u48 :: u49 :: u50 :: u51 :: u52 :: u53 :: u54 :: u55 :: u56 :: u57 :: u58 :: u59 :: u60 :: u61 :: u62 :: u63 :: u64 :: u65 :: u66 :: u67 :: u68 :: u69 :: u70 :: u71 :: u72 :: s73 :: s74 :: s75 :: s76 :: s77 :: s78 :: u79 :: u80 :: u81 :: u82 :: u83 :: u84 :: u85 :: u86 :: u87 :: u88 :: u89 :: u90 :: u91 :: u92 :: u93 :: u94 :: u95 :: u96 :: u97 :: u98 :: u99 :: u100 :: u101 :: u102 :: u103 :: u104 :: u105 :: u106 :: u107 :: u108 :: u109 :: u110 :: u111 :: u112 :: u113 :: u114 :: u115 :: u116 :: u117 :: u118 :: u119 :: u120 :: u121 :: u122 :: u123 :: u124 :: u125 :: u126 :: u127 :: u128 :: u129 :: u130 :: u131 :: u132 :: u133 :: u134 :: u135 :: u136 :: u137 :: u138 :: u139 :: u140 :: u141 :: u142 :: u143 :: u144 :: u145 :: u146 :: u147 :: u148 :: u149 :: u150 :: u151 :: u152 :: u153 :: u154 :: u155 :: []), []⟩ w2)) :
    Code.wp Try.prog (findR 14 (Try.f9.body.getD .skip)) Q ⟨List.toArray (u0 :: u1 :: u2 :: u3 :: u4 :: u5 :: u6 :: u7 :: u8 :: u9 :: u10 :: u11 :: Value.pointer (some ⟨g1, 0, none⟩) :: u13 :: u14 :: u15 :: u16 :: u17 :: Value.string ⟨(diffM A B).toArray⟩ :: u19 :: u20 :: u21 :: u22 :: u23 :: u24 :: u25 :: u26 :: u27 :: u28 :: u29 :: u30 :: u31 :: u32 :: u33 :: u34 :: u35 :: u36 :: u37 :: u38 :: u39 :: u40 :: u41 :: u42 :: u43 :: u44 :: u45 :: u46 :: u47 :: u48 :: u49 :: u50 :: u51 :: u52 :: u53 :: u54 :: u55 :: u56 :: u57 :: u58 :: u59 :: u60 :: u61 :: u62 :: u63 :: u64 :: u65 :: u66 :: u67 :: u68 :: u69 :: u70 :: u71 :: u72 :: u73 :: u74 :: u75 :: u76 :: u77 :: u78 :: u79 :: u80 :: u81 :: u82 :: u83 :: u84 :: u85 :: u86 :: u87 :: u88 :: u89 :: u90 :: u91 :: u92 :: u93 :: u94 :: u95 :: u96 :: u97 :: u98 :: u99 :: u100 :: u101 :: u102 :: u103 :: u104 :: u105 :: u106 :: u107 :: u108 :: u109 :: u110 :: u111 :: u112 :: u113 :: u114 :: u115 :: u116 :: u117 :: u118 :: u119 :: u120 :: u121 :: u122 :: u123 :: u124 :: u125 :: u126 :: u127 :: u128 :: u129 :: u130 :: u131 :: u132 :: u133 :: u134 :: u135 :: u136 :: u137 :: u138 :: u139 :: u140 :: u141 :: u142 :: u143 :: u144 :: u145 :: u146 :: u147 :: u148 :: u149 :: u150 :: u151 :: u152 :: u153 :: u154 :: u155 :: []), []⟩ w0 := by
  conv => arg 2; whnf
  have hd := patch_calls HA.out.1 HA.out.2.1 HA.out.2.2 HI.out.t HI.out.s
  obtain ⟨PX, hPX⟩ : ∃ P, X.ptr = P := ⟨_, rfl⟩
  obtain ⟨S, hS⟩ : ∃ S : ByteArray, (⟨(diffM A B).toArray⟩ : ByteArray) = S := ⟨_, rfl⟩
  rw [hS] at hd Hk ⊢
  rw [hPX] at hd
  unfold macV at hd
  rw [mac_eta A PX] at hd
  have Hd := Lib.hid hd; clear hd hS
  obtain ⟨⟨a0, a1, a14⟩, ⟨a2, a3, a4⟩, ⟨a5, a6, a7⟩, ⟨a8, a9, a10⟩, ⟨a11, a12, a13⟩⟩ := HI.out.a.cells
  rw [hPX] at a14
  clear hPX HI
  go_wp2_with ((with_reducible refine Hd.out.mono ?_); rintro e w2 ⟨Z, rfl, hZ, hZs, hb⟩; have HZ := Lib.hid (And.intro hZ (And.intro hZs hb)); clear hZ hZs hb; rw [mac_eta B Z.ptr])
  change Q _ _ (w2.alloc (.cells (macCells B Z.ptr).toArray 69))
  have hba := (Below.refl w2.heap.size w2).alloc (Nat.le_refl _) (.cells (macCells B Z.ptr).toArray 69)
  exact Hk.out _ _ _ _ _ _ _ Z _ ⟨⟨heap_alloc_new _ _, HZ.out.1.below hba, HZ.out.2.1⟩, HZ.out.2.2.trans (hba.mono HZ.out.2.2.size), HZ.out.2.2.size⟩
set_option maxRecDepth 100000 in
set_option maxHeartbeats 16000000 in
theorem lead_reg21 (w0 : World) (g1 : Nat) (A B : MacV) (X : Tr) {Q : Exit → Act → World → Prop}
    (HI : Hid (OneI w0 g1 A X)) (HA : Hid (MacAll A ∧ MacAll B ∧ A.all = B.all))
    (u0 u1 u2 u3 u4 u5 u6 u7 u8 u9 u10 u12 u13 u14 u15 u16 u17 u18 u19 u20 u21 u23 u24 u25 u26 u27 u28 u29 u30 u31 u32 u33 u34 u35 u36 u37 u38 u39 u40 u41 u42 u43 u44 u45 u46 u47 u48 u49 u50 u51 u52 u53 u54 u55 u56 u57 u58 u59 u60 u61 u62 u63 u64 u65 u66 u67 u68 u69 u70 u71 u72 u73 u74 u75 u76 u77 u78 u79 u80 u81 u82 u83 u84 u85 u86 u87 u88 u89 u90 u91 u92 u93 u94 u95 u96 u97 u98 u99 u100 u101 u102 u103 u104 u105 u106 u107 u108 u109 u110 u111 u112 u113 u114 u115 u116 u117 u118 u119 u120 u121 u122 u123 u124 u125 u126 u127 u128 u129 u130 u131 u132 u133 u134 u135 u136 u137 u138 u139 u140 u141 u142 u143 u144 u145 u146 u147 u148 u149 u150 u151 u152 u153 u154 u155 : Value)
    (Hk : Hid (∀ (s106 s107 s108 s109 s110 s111 : Value) (gy : Nat) (Z : Tr) (w2 : World), OneI w2 gy B Z ∧ Below w0.heap.size w0 w2 ∧ w0.heap.size ≤ gy → Q .normal ⟨List.toArray (u0 :: u1 :: u2 :: u3 :: u4 :: u5 :: u6 :: u7 :: u8 :: u9 :: u10 :: Value.pointer (some ⟨g1, 0, none⟩) :: u12 :: u13 :: u14 :: u15 :: u16 :: u17 :: u18 :: u19 :: u20 :: u21 :: Value.string ⟨(diffM A B).toArray⟩ :: u23 :: u24 :: u25 :: Value.pointer (some ⟨gy, 0, none⟩) :: Value.int .i64 0 :: u28 :: u29 :: u30 :: u31 :: u32 :: u33 :: u34 :: u35 :: u36 :: u37 :: u38 :: u39 :: u40 :: u41 :: u42 :: u43 :: u44 :: u45 :: u46 :: u47 :: u48 :: u49 :: u50 :: u51 :: u52 :: u53 :: u54 :: u55 :: u56 :: u57 :: u58 :: u59 :: u60 :: u61 :: u62 :: u63 :: u64 :: u65 :: u66 :: u67 :: u68 :: u69 :: u70 :: u71 :: u72 :: u73 :: u74 :: u75 :: u76 :: u77 :: u78 :: u79 :: u80 :: u81 :: u82 :: u83 :: u84 :: u85 :: u86 :: u87 :: u88 :: u89 :: u90 :: u91 :: u92 :: u93 :: u94 :: u95 :: u96 :: u97 :: u98 :: u99 :: u100 :: u101 :: u102 :: u103 :: u104 :: u105 :: s106 :: s107 :: s108 :: s109 :: s110 :: s111 :: u112 :: u113 :: u114 :: u115 :: u116 :: u117 :: u118 :: u119 :: u120 :: u121 :: u122 :: u123 :: u124 :: u125 :: u126 :: u127 :: u128 :: u129 :: u130 :: u131 :: u132 :: u133 :: u134 :: u135 :: u136 :: u137 :: u138 :: u139 :: u140 :: u141 :: u142 :: u143 :: u144 :: u145 :: u146 :: u147 :: u148 :: u149 :: u150 :: u151 :: u152 :: u153 :: u154 :: u155 :: []), []⟩ w2)) :
    Code.wp Try.prog (findR 21 (Try.f9.body.getD .skip)) Q ⟨List.toArray (u0 :: u1 :: u2 :: u3 :: u4 :: u5 :: u6 :: u7 :: u8 :: u9 :: u10 :: Value.pointer (some ⟨g1, 0, none⟩) :: u12 :: u13 :: u14 :: u15 :: u16 :: u17 :: u18 :: u19 :: u20 :: u21 :: Value.string ⟨(diffM A B).toArray⟩ :: u23 :: u24 :: u25 :: u26 :: u27 :: u28 :: u29 :: u30 :: u31 :: u32 :: u33 :: u34 :: u35 :: u36 :: u37 :: u38 :: u39 :: u40 :: u41 :: u42 :: u43 :: u44 :: u45 :: u46 :: u47 :: u48 :: u49 :: u50 :: u51 :: u52 :: u53 :: u54 :: u55 :: u56 :: u57 :: u58 :: u59 :: u60 :: u61 :: u62 :: u63 :: u64 :: u65 :: u66 :: u67 :: u68 :: u69 :: u70 :: u71 :: u72 :: u73 :: u74 :: u75 :: u76 :: u77 :: u78 :: u79 :: u80 :: u81 :: u82 :: u83 :: u84 :: u85 :: u86 :: u87 :: u88 :: u89 :: u90 :: u91 :: u92 :: u93 :: u94 :: u95 :: u96 :: u97 :: u98 :: u99 :: u100 :: u101 :: u102 :: u103 :: u104 :: u105 :: u106 :: u107 :: u108 :: u109 :: u110 :: u111 :: u112 :: u113 :: u114 :: u115 :: u116 :: u117 :: u118 :: u119 :: u120 :: u121 :: u122 :: u123 :: u124 :: u125 :: u126 :: u127 :: u128 :: u129 :: u130 :: u131 :: u132 :: u133 :: u134 :: u135 :: u136 :: u137 :: u138 :: u139 :: u140 :: u141 :: u142 :: u143 :: u144 :: u145 :: u146 :: u147 :: u148 :: u149 :: u150 :: u151 :: u152 :: u153 :: u154 :: u155 :: []), []⟩ w0 := by
  conv => arg 2; whnf
  have hd := patch_calls HA.out.1 HA.out.2.1 HA.out.2.2 HI.out.t HI.out.s
  obtain ⟨PX, hPX⟩ : ∃ P, X.ptr = P := ⟨_, rfl⟩
  obtain ⟨S, hS⟩ : ∃ S : ByteArray, (⟨(diffM A B).toArray⟩ : ByteArray) = S := ⟨_, rfl⟩
  rw [hS] at hd Hk ⊢
  rw [hPX] at hd
  unfold macV at hd
  rw [mac_eta A PX] at hd
  have Hd := Lib.hid hd; clear hd hS
  obtain ⟨⟨a0, a1, a14⟩, ⟨a2, a3, a4⟩, ⟨a5, a6, a7⟩, ⟨a8, a9, a10⟩, ⟨a11, a12, a13⟩⟩ := HI.out.a.cells
  rw [hPX] at a14
  clear hPX HI
  go_wp2_with ((with_reducible refine Hd.out.mono ?_); rintro e w2 ⟨Z, rfl, hZ, hZs, hb⟩; have HZ := Lib.hid (And.intro hZ (And.intro hZs hb)); clear hZ hZs hb; rw [mac_eta B Z.ptr])
  change Q _ _ (w2.alloc (.cells (macCells B Z.ptr).toArray 69))
  have hba := (Below.refl w2.heap.size w2).alloc (Nat.le_refl _) (.cells (macCells B Z.ptr).toArray 69)
  exact Hk.out _ _ _ _ _ _ _ Z _ ⟨⟨heap_alloc_new _ _, HZ.out.1.below hba, HZ.out.2.1⟩, HZ.out.2.2.trans (hba.mono HZ.out.2.2.size), HZ.out.2.2.size⟩
set_option maxRecDepth 100000 in
set_option maxHeartbeats 16000000 in
theorem lead_reg22 (w0 : World) (g1 : Nat) (A B : MacV) (X : Tr) {Q : Exit → Act → World → Prop}
    (HI : Hid (OneI w0 g1 A X)) (HA : Hid (MacAll A ∧ MacAll B ∧ A.all = B.all))
    (u0 u1 u2 u3 u4 u5 u6 u7 u8 u9 u10 u11 u12 u14 u15 u16 u17 u18 u19 u20 u21 u22 u23 u25 u26 u27 u28 u29 u30 u31 u32 u33 u34 u35 u36 u37 u38 u39 u40 u41 u42 u43 u44 u45 u46 u47 u48 u49 u50 u51 u52 u53 u54 u55 u56 u57 u58 u59 u60 u61 u62 u63 u64 u65 u66 u67 u68 u69 u70 u71 u72 u73 u74 u75 u76 u77 u78 u79 u80 u81 u82 u83 u84 u85 u86 u87 u88 u89 u90 u91 u92 u93 u94 u95 u96 u97 u98 u99 u100 u101 u102 u103 u104 u105 u106 u107 u108 u109 u110 u111 u112 u113 u114 u115 u116 u117 u118 u119 u120 u121 u122 u123 u124 u125 u126 u127 u128 u129 u130 u131 u132 u133 u134 u135 u136 u137 u138 u139 u140 u141 u142 u143 u144 u145 u146 u147 u148 u149 u150 u151 u152 u153 u154 u155 : Value)
    (Hk : Hid (∀ (s112 s113 s114 s115 s116 s117 : Value) (gy : Nat) (Z : Tr) (w2 : World), OneI w2 gy B Z ∧ Below w0.heap.size w0 w2 ∧ w0.heap.size ≤ gy → Q .normal ⟨List.toArray (u0 :: u1 :: u2 :: u3 :: u4 :: u5 :: u6 :: u7 :: u8 :: u9 :: u10 :: u11 :: u12 :: Value.pointer (some ⟨g1, 0, none⟩) :: u14 :: u15 :: u16 :: u17 :: u18 :: u19 :: u20 :: u21 :: u22 :: u23 :: Value.string ⟨(diffM A B).toArray⟩ :: u25 :: u26 :: u27 :: Value.pointer (some ⟨gy, 0, none⟩) :: Value.int .i64 0 :: u30 :: u31 :: u32 :: u33 :: u34 :: u35 :: u36 :: u37 :: u38 :: u39 :: u40 :: u41 :: u42 :: u43 :: u44 :: u45 :: u46 :: u47 :: u48 :: u49 :: u50 :: u51 :: u52 :: u53 :: u54 :: u55 :: u56 :: u57 :: u58 :: u59 :: u60 :: u61 :: u62 :: u63 :: u64 :: u65 :: u66 :: u67 :: u68 :: u69 :: u70 :: u71 :: u72 :: u73 :: u74 :: u75 :: u76 :: u77 :: u78 :: u79 :: u80 :: u81 :: u82 :: u83 :: u84 :: u85 :: u86 :: u87 :: u88 :: u89 :: u90 :: u91 :: u92 :: u93 :: u94 :: u95 :: u96 :: u97 :: u98 :: u99 :: u100 :: u101 :: u102 :: u103 :: u104 :: u105 :: u106 :: u107 :: u108 :: u109 :: u110 :: u111 :: s112 :: s113 :: s114 :: s115 :: s116 :: s117 :: u118 :: u119 :: u120 :: u121 :: u122 :: u123 :: u124 :: u125 :: u126 :: u127 :: u128 :: u129 :: u130 :: u131 :: u132 :: u133 :: u134 :: u135 :: u136 :: u137 :: u138 :: u139 :: u140 :: u141 :: u142 :: u143 :: u144 :: u145 :: u146 :: u147 :: u148 :: u149 :: u150 :: u151 :: u152 :: u153 :: u154 :: u155 :: []), []⟩ w2)) :
    Code.wp Try.prog (findR 22 (Try.f9.body.getD .skip)) Q ⟨List.toArray (u0 :: u1 :: u2 :: u3 :: u4 :: u5 :: u6 :: u7 :: u8 :: u9 :: u10 :: u11 :: u12 :: Value.pointer (some ⟨g1, 0, none⟩) :: u14 :: u15 :: u16 :: u17 :: u18 :: u19 :: u20 :: u21 :: u22 :: u23 :: Value.string ⟨(diffM A B).toArray⟩ :: u25 :: u26 :: u27 :: u28 :: u29 :: u30 :: u31 :: u32 :: u33 :: u34 :: u35 :: u36 :: u37 :: u38 :: u39 :: u40 :: u41 :: u42 :: u43 :: u44 :: u45 :: u46 :: u47 :: u48 :: u49 :: u50 :: u51 :: u52 :: u53 :: u54 :: u55 :: u56 :: u57 :: u58 :: u59 :: u60 :: u61 :: u62 :: u63 :: u64 :: u65 :: u66 :: u67 :: u68 :: u69 :: u70 :: u71 :: u72 :: u73 :: u74 :: u75 :: u76 :: u77 :: u78 :: u79 :: u80 :: u81 :: u82 :: u83 :: u84 :: u85 :: u86 :: u87 :: u88 :: u89 :: u90 :: u91 :: u92 :: u93 :: u94 :: u95 :: u96 :: u97 :: u98 :: u99 :: u100 :: u101 :: u102 :: u103 :: u104 :: u105 :: u106 :: u107 :: u108 :: u109 :: u110 :: u111 :: u112 :: u113 :: u114 :: u115 :: u116 :: u117 :: u118 :: u119 :: u120 :: u121 :: u122 :: u123 :: u124 :: u125 :: u126 :: u127 :: u128 :: u129 :: u130 :: u131 :: u132 :: u133 :: u134 :: u135 :: u136 :: u137 :: u138 :: u139 :: u140 :: u141 :: u142 :: u143 :: u144 :: u145 :: u146 :: u147 :: u148 :: u149 :: u150 :: u151 :: u152 :: u153 :: u154 :: u155 :: []), []⟩ w0 := by
  conv => arg 2; whnf
  have hd := patch_calls HA.out.1 HA.out.2.1 HA.out.2.2 HI.out.t HI.out.s
  obtain ⟨PX, hPX⟩ : ∃ P, X.ptr = P := ⟨_, rfl⟩
  obtain ⟨S, hS⟩ : ∃ S : ByteArray, (⟨(diffM A B).toArray⟩ : ByteArray) = S := ⟨_, rfl⟩
  rw [hS] at hd Hk ⊢
  rw [hPX] at hd
  unfold macV at hd
  rw [mac_eta A PX] at hd
  have Hd := Lib.hid hd; clear hd hS
  obtain ⟨⟨a0, a1, a14⟩, ⟨a2, a3, a4⟩, ⟨a5, a6, a7⟩, ⟨a8, a9, a10⟩, ⟨a11, a12, a13⟩⟩ := HI.out.a.cells
  rw [hPX] at a14
  clear hPX HI
  go_wp2_with ((with_reducible refine Hd.out.mono ?_); rintro e w2 ⟨Z, rfl, hZ, hZs, hb⟩; have HZ := Lib.hid (And.intro hZ (And.intro hZs hb)); clear hZ hZs hb; rw [mac_eta B Z.ptr])
  change Q _ _ (w2.alloc (.cells (macCells B Z.ptr).toArray 69))
  have hba := (Below.refl w2.heap.size w2).alloc (Nat.le_refl _) (.cells (macCells B Z.ptr).toArray 69)
  exact Hk.out _ _ _ _ _ _ _ Z _ ⟨⟨heap_alloc_new _ _, HZ.out.1.below hba, HZ.out.2.1⟩, HZ.out.2.2.trans (hba.mono HZ.out.2.2.size), HZ.out.2.2.size⟩
end Go.Proofs.Ytkngadbeflepoaa
namespace Go.Proofs.Ytkngadbeflepoaa
open Go.RowKit
set_option maxRecDepth 100000 in
set_option maxHeartbeats 16000000 in
theorem lead_reg12 (w0 : World) (g : Nat) (M : MacV) (T : Tr) (P : Option Addr) (b o len cap i : Nat) (c : CmdV) (M2 : MacV) (code : Nat) (text : ByteArray) (fresh : Bool) {Q : Exit → Act → World → Prop}
    (hQ : ∀ c a d v w, Q (.panic c) (Act.put a d v) w → Q (.panic c) a w) (hQ2 : ∀ c a d v w, Q (.panic c) a w → Q (.panic c) (Act.put a d v) w)
    (HSm : Hid (MacAt w0 g M P)) (HTm : Hid (TreeAt w0 T)) (HEm : Hid (T.ptr = P ∧ T.sh = M.sh)) (Hlim : Hid (M.all < 256 ∧ T.cnt ≤ 4611686018427387903)) (HO : Hid (macDo M c = ⟨M2, code, text, fresh⟩)) (hlt' : (i : Int) < (len : Int)) (Hc : Hid (CmdStay w0 b (o + i * 7) c))
    (u0 u1 u2 u4 u5 u6 u7 u8 u9 u10 u11 u12 u15 u16 u17 u18 u19 u20 u21 u22 u23 u24 u25 u26 u27 u28 u29 u30 u31 u32 u33 u34 u35 u36 u37 u38 u39 u40 u41 u42 u43 u44 u45 u46 u47 u48 u49 u50 u51 u52 u53 u54 u55 u56 u57 u58 u59 u60 u61 u62 u63 u64 u65 u66 u67 u68 u69 u70 u71 u72 u73 u74 u75 u76 u77 u78 u79 u80 u81 u82 u83 u84 u85 u86 u87 u88 u89 u90 u91 u92 u93 u94 u95 u96 u97 u98 u99 u100 u101 u102 u103 u104 u105 u106 u107 u108 u109 u110 u111 u112 u113 u114 u115 u116 u117 u118 u119 u120 u121 u122 u123 u124 u125 u126 u127 u128 u129 u130 u131 u132 u133 u134 u135 u136 u137 u138 u139 u140 u141 u142 u143 u144 u145 u146 u147 u148 u149 u150 u151 u152 u153 u154 u155 : Value)
    (Hk : Hid (∀ (s57 s58 s59 s60 s61 s62 s63 s64 s65 s66 : Value) (gs gr : Nat) (X : Tr) (P2 : Option Addr) (w2 : World), BEnd w0 w2 gs gr M2 P2 code text X → Q .normal ⟨List.toArray (u0 :: u1 :: u2 :: Value.slice (some ⟨b, o, none⟩) len cap :: u4 :: u5 :: u6 :: u7 :: u8 :: u9 :: u10 :: u11 :: u12 :: Value.pointer (some ⟨g, 0, none⟩) :: Value.int .i64 (i : Int) :: Value.pointer (some ⟨gs, 0, none⟩) :: Value.pointer (some ⟨gr, 0, none⟩) :: Value.bool fresh :: u18 :: u19 :: u20 :: u21 :: u22 :: u23 :: u24 :: u25 :: u26 :: u27 :: u28 :: u29 :: u30 :: u31 :: u32 :: u33 :: u34 :: u35 :: u36 :: u37 :: u38 :: u39 :: u40 :: u41 :: u42 :: u43 :: u44 :: u45 :: u46 :: u47 :: u48 :: u49 :: u50 :: u51 :: u52 :: u53 :: u54 :: u55 :: u56 :: s57 :: s58 :: s59 :: s60 :: s61 :: s62 :: s63 :: s64 :: s65 :: s66 :: u67 :: u68 :: u69 :: u70 :: u71 :: u72 :: u73 :: u74 :: u75 :: u76 :: u77 :: u78 :: u79 :: u80 :: u81 :: u82 :: u83 :: u84 :: u85 :: u86 :: u87 :: u88 :: u89 :: u90 :: u91 :: u92 :: u93 :: u94 :: u95 :: u96 :: u97 :: u98 :: u99 :: u100 :: u101 :: u102 :: u103 :: u104 :: u105 :: u106 :: u107 :: u108 :: u109 :: u110 :: u111 :: u112 :: u113 :: u114 :: u115 :: u116 :: u117 :: u118 :: u119 :: u120 :: u121 :: u122 :: u123 :: u124 :: u125 :: u126 :: u127 :: u128 :: u129 :: u130 :: u131 :: u132 :: u133 :: u134 :: u135 :: u136 :: u137 :: u138 :: u139 :: u140 :: u141 :: u142 :: u143 :: u144 :: u145 :: u146 :: u147 :: u148 :: u149 :: u150 :: u151 :: u152 :: u153 :: u154 :: u155 :: []), []⟩ w2)) :
    Code.wp Try.prog (findR 12 (Try.f9.body.getD .skip)) Q ⟨List.toArray (u0 :: u1 :: u2 :: Value.slice (some ⟨b, o, none⟩) len cap :: u4 :: u5 :: u6 :: u7 :: u8 :: u9 :: u10 :: u11 :: u12 :: Value.pointer (some ⟨g, 0, none⟩) :: Value.int .i64 (i : Int) :: u15 :: u16 :: u17 :: u18 :: u19 :: u20 :: u21 :: u22 :: u23 :: u24 :: u25 :: u26 :: u27 :: u28 :: u29 :: u30 :: u31 :: u32 :: u33 :: u34 :: u35 :: u36 :: u37 :: u38 :: u39 :: u40 :: u41 :: u42 :: u43 :: u44 :: u45 :: u46 :: u47 :: u48 :: u49 :: u50 :: u51 :: u52 :: u53 :: u54 :: u55 :: u56 :: u57 :: u58 :: u59 :: u60 :: u61 :: u62 :: u63 :: u64 :: u65 :: u66 :: u67 :: u68 :: u69 :: u70 :: u71 :: u72 :: u73 :: u74 :: u75 :: u76 :: u77 :: u78 :: u79 :: u80 :: u81 :: u82 :: u83 :: u84 :: u85 :: u86 :: u87 :: u88 :: u89 :: u90 :: u91 :: u92 :: u93 :: u94 :: u95 :: u96 :: u97 :: u98 :: u99 :: u100 :: u101 :: u102 :: u103 :: u104 :: u105 :: u106 :: u107 :: u108 :: u109 :: u110 :: u111 :: u112 :: u113 :: u114 :: u115 :: u116 :: u117 :: u118 :: u119 :: u120 :: u121 :: u122 :: u123 :: u124 :: u125 :: u126 :: u127 :: u128 :: u129 :: u130 :: u131 :: u132 :: u133 :: u134 :: u135 :: u136 :: u137 :: u138 :: u139 :: u140 :: u141 :: u142 :: u143 :: u144 :: u145 :: u146 :: u147 :: u148 :: u149 :: u150 :: u151 :: u152 :: u153 :: u154 :: u155 :: []), []⟩ w0 := by
  conv => arg 2; whnf
  refine (wpIn_wide (n := 1)).1 ?_
  refine RegL.wpIn_region_lays (F := Fence.wide) (KeptW w0) [⟨10, 15, .cells (macCells macNone none).toArray 69 (0, 0)⟩, ⟨11, 16, .cells (repCells 0 ByteArray.empty).toArray 51 (0, 0)⟩] [(0, 0), (1, 0), (2, 0), (3, 0), (4, 0), (5, 1), (6, 2), (7, 2), (8, 2), (9, 2), (12, 3), (13, 3), (14, 3)] (by kernel_rfl) (by kernel_rfl) (by kernel_rfl) (fun p hp => by simp only [List.mem_cons, List.not_mem_nil, or_false] at hp; rcases hp with rfl | rfl; exact lays_any layMac rfl; exact lays_any layRep rfl)
    hQ hQ2 ⟨rfl, rfl, rfl, Nat.le_refl _, fun _ _ => rfl⟩ (keptW_mono w0) ?_
  clear hQ hQ2
  dsimp only [RegK.pick, List.getElem?_cons_zero, List.getElem?_cons_succ]
  obtain ⟨S1, hS1⟩ : ∃ V, macV M P = V := ⟨_, rfl⟩
  have HV1 := Lib.hid hS1; clear hS1
  refine RegL.reads ?_
  intro K hK
  go_simp
  refine ⟨S1, fun y hy => ?_, hK _ ?_⟩
  · rw [← HV1.out]
    unfold macV
    rw [mac_eta M P]
    obtain ⟨⟨m0, m1, m14⟩, ⟨m2, m3, m4⟩, ⟨m5, m6, m7⟩, ⟨m8, m9, m10⟩, ⟨m11, m12, m13⟩⟩ := (HSm.out.below (KeptW.bel hy)).cells
    go_simp
  clear hK K
  iterate 3 (refine RegL.reads ?_; intro K hK; go_simp; (first | refine ⟨_, fun _ _ => rfl, hK _ ?_⟩ | refine hK _ ?_); clear hK K)
  refine RegL.reads ?_
  intro K hK
  go_simp
  refine ⟨.agg (cmdCells c).toArray, fun y hy => ?_, hK _ ?_⟩
  · obtain ⟨f0, f1, f2, f3, f4, f5, f6⟩ := Hc.out y (KeptW.bel hy)
    rw [cmd_eta]
    go_simp
  clear hK K
  refine RegL.adds (fun _ => trivial) ?_
  go_simp
  intro x hx K hK
  refine ⟨trivial, ?_⟩
  have hd := mdo_any c M T x Hlim.out.1 (HTm.out.below (KeptW.bel hx)) HEm.out.2 Hlim.out.2
  rw [HEm.out.1, HO.out, HV1.out] at hd
  unfold repV repCells at hd
  refine (callsIn_wide.2 hd).mono ?_
  clear hd
  rintro e xc1 ⟨X1, rfl, hX⟩
  have hxc : KeptW w0 xc1 := KeptW.mono hx hX.bel
  refine hK (KeptW xc1) _ _ hX.bel (fun y h => KeptW.mono (KeptW.mono hx hX.bel) (KeptW.bel h)) (keptW_mono xc1) (Below.refl _ _) ?_
  have HX1 := Lib.hid (And.intro hX.at_ (show X1.sh = M2.sh from hX.shp))
  clear hK K hX hx HV1
  obtain ⟨P1, hP1⟩ : ∃ P, X1.ptr = P := ⟨_, rfl⟩
  rw [hP1]
  have HP1 := Lib.hid hP1; clear hP1
  obtain ⟨V1, hV1⟩ : ∃ V, macV M2 P1 = V := ⟨_, rfl⟩
  dsimp only
  rw [hV1]
  have HV1 := Lib.hid hV1; clear hV1
  iterate 4 (refine RegL.pures ?_; intro K hK; go_simp; (first | (refine ⟨_, fun _ => rfl, hK _ ?_⟩) | (refine hK _ ?_)); clear hK K)
  refine RegL.last ?_
  intro g' y hF hy
  have hyk : KeptW w0 y := KeptW.mono hxc (KeptW.bel hy)
  obtain ⟨hg1, hg2⟩ := hF.1 ⟨10, 15, .cells (macCells macNone none).toArray 69 (0, 0)⟩ (by simp) rfl
  obtain ⟨hg3, hg4⟩ := hF.1 ⟨11, 16, .cells (repCells 0 ByteArray.empty).toArray 51 (0, 0)⟩ (by simp) rfl
  have hne : g' 11 ≠ g' 10 := hF.2 ⟨11, 16, .cells (repCells 0 ByteArray.empty).toArray 51 (0, 0)⟩ (by simp) ⟨10, 15, .cells (macCells macNone none).toArray 69 (0, 0)⟩ (by simp) rfl rfl (by simp)
  have hs : MacAt y (g' 10) macNone none := hg1
  have hr : RepAt y (g' 11) 0 ByteArray.empty := hg3
  have hsl : w0.heap.size ≤ g' 10 := hg2
  have hrl : w0.heap.size ≤ g' 11 := hg4
  simp only [RegL.putS, RegL.ptr, if_true]
  clear hF hg1 hg2 hg3 hg4
  generalize g' 10 = gs at *
  generalize g' 11 = gr at *
  have hr2 : RepAt (rowSt y gs 0 (macCells M2 P1)) gr 0 ByteArray.empty := (rowSt_other hne _ _ _).trans hr
  obtain ⟨f2, f3⟩ := hr2.cells
  have f4 := hr2.thawed 0
  have f5 := hr2.thawed 1
  have HZ1 := Lib.hid (ma_end hs hr hne M2 P1 code text)
  obtain ⟨q0, q1⟩ := mac_store hs HV1.out
  simp only [Value.cells] at q0 q1
  clear hs hr hr2
  generalize hwr : rowSt y gs 0 (macCells M2 P1) = wr at *
  refine RegK.can_frees (fun _ => trivial) ?_
  intro K K0 hK hK0
  go_simp
  refine hK (fun _ => True) _ _ trivial ?_
  clear hK K hK0 K0 q0 q1
  refine RegK.can_frees (fun _ => trivial) ?_
  intro K K0 hK hK0
  go_simp
  refine hK (fun _ => True) _ _ trivial ?_
  clear hK K hK0 K0
  refine RegK.can_frees (fun _ => trivial) ?_
  intro K K0 hK hK0
  go_simp
  refine hK (fun _ => True) _ _ trivial ?_
  clear hK K hK0 K0
  refine RegK.can_nil ?_
  clear f2 f3 f4 f5 HV1
  change Q _ _ (repSt wr gr code text)
  rw [← hwr]
  clear hwr
  change Q _ _ (maW y gs gr M2 P1 code text)
  exact Hk.out _ _ _ _ _ _ _ _ _ _ gs gr X1 P1 _ ⟨HZ1.out.st, HZ1.out.rep, HZ1.out.tree _ (HX1.out.1.below (KeptW.bel hy)), HP1.out, HX1.out.2, HZ1.out.bel _ _ (KeptW.bel hyk) hsl hrl, hsl, hrl, hne⟩
end Go.Proofs.Ytkngadbeflepoaa
