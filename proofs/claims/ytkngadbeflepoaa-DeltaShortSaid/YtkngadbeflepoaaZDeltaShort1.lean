/- Deltas: DeltaShort, a key is put. Condition: the machines may be told. -/
import Derived.Test.YtkngadbeflepoaaZDeltaShort0
import Derived.Test.YtkngadbeflepoaaZDeltaLeads15
import Derived.Test.YtkngadbeflepoaaZDeltaLeads16
import Derived.Test.YtkngadbeflepoaaZDeltaLeads5
import Derived.Test.YtkngadbeflepoaaZDeltaLeads43
import Derived.Test.YtkngadbeflepoaaZDeltaLeads46
namespace Go.Proofs.Ytkngadbeflepoaa
open Go.RowKit
set_option maxRecDepth 100000 in
set_option maxHeartbeats 16000000 in
theorem short_reg9 (w0 : World) (g i : Nat) (M : MacV) (X : Tr) {Q : Exit → Act → World → Prop}
    (HI : Hid (OneI w0 g M X)) (HA : Hid (MacAll M)) (hi : i < 250)
    (u0 u1 u2 u3 u4 u6 u8 u9 u10 u11 u12 u13 u14 u15 u16 u17 u18 u19 u20 u21 u22 u23 u24 u25 u26 u27 u28 u29 u30 u31 u32 u33 u34 u35 u36 u37 u38 u39 u40 u41 u42 u43 u44 u45 u46 u47 u48 u49 u50 u51 u52 u53 u54 u55 u56 u57 u58 u59 u60 u61 u62 u63 u64 u65 u66 u67 u68 u69 u70 u71 u72 u73 u74 u75 u76 u77 u78 u79 u80 u81 u82 u83 u84 u85 u86 u87 u88 u89 u90 u91 u92 u93 u94 u95 u96 u97 u98 u99 u100 u101 u102 u103 u104 u105 u106 u107 u108 u109 u110 u111 u112 u113 u114 u115 u116 u117 u118 u119 u120 u121 u122 u123 u124 u125 u126 u127 u128 : Value)
    (Hk : Hid (∀ (s40 s41 s42 s43 s44 s45 s46 s47 s48 s49 s50 s51 s52 s53 : Value) (M2 : MacV) (Z : Tr) (y w2 : World), MacAll M2 ∧ M2.all = M.all ∧ Below w0.heap.size w0 y ∧ TreeAt y Z ∧ Z.sh = M2.sh ∧ w2 = rowSt y g 0 (macCells M2 Z.ptr) → Q .normal ⟨List.toArray (u0 :: u1 :: u2 :: u3 :: u4 :: Value.pointer (some ⟨g, 0, none⟩) :: u6 :: Value.int .i64 (i : Int) :: u8 :: u9 :: u10 :: u11 :: u12 :: u13 :: u14 :: u15 :: u16 :: u17 :: u18 :: u19 :: u20 :: u21 :: u22 :: u23 :: u24 :: u25 :: u26 :: u27 :: u28 :: u29 :: u30 :: u31 :: u32 :: u33 :: u34 :: u35 :: u36 :: u37 :: u38 :: u39 :: s40 :: s41 :: s42 :: s43 :: s44 :: s45 :: s46 :: s47 :: s48 :: s49 :: s50 :: s51 :: s52 :: s53 :: u54 :: u55 :: u56 :: u57 :: u58 :: u59 :: u60 :: u61 :: u62 :: u63 :: u64 :: u65 :: u66 :: u67 :: u68 :: u69 :: u70 :: u71 :: u72 :: u73 :: u74 :: u75 :: u76 :: u77 :: u78 :: u79 :: u80 :: u81 :: u82 :: u83 :: u84 :: u85 :: u86 :: u87 :: u88 :: u89 :: u90 :: u91 :: u92 :: u93 :: u94 :: u95 :: u96 :: u97 :: u98 :: u99 :: u100 :: u101 :: u102 :: u103 :: u104 :: u105 :: u106 :: u107 :: u108 :: u109 :: u110 :: u111 :: u112 :: u113 :: u114 :: u115 :: u116 :: u117 :: u118 :: u119 :: u120 :: u121 :: u122 :: u123 :: u124 :: u125 :: u126 :: u127 :: u128 :: []), []⟩ w2)) :
    Code.wp Try.prog (findR 9 (Try.f10.body.getD .skip)) Q ⟨List.toArray (u0 :: u1 :: u2 :: u3 :: u4 :: Value.pointer (some ⟨g, 0, none⟩) :: u6 :: Value.int .i64 (i : Int) :: u8 :: u9 :: u10 :: u11 :: u12 :: u13 :: u14 :: u15 :: u16 :: u17 :: u18 :: u19 :: u20 :: u21 :: u22 :: u23 :: u24 :: u25 :: u26 :: u27 :: u28 :: u29 :: u30 :: u31 :: u32 :: u33 :: u34 :: u35 :: u36 :: u37 :: u38 :: u39 :: u40 :: u41 :: u42 :: u43 :: u44 :: u45 :: u46 :: u47 :: u48 :: u49 :: u50 :: u51 :: u52 :: u53 :: u54 :: u55 :: u56 :: u57 :: u58 :: u59 :: u60 :: u61 :: u62 :: u63 :: u64 :: u65 :: u66 :: u67 :: u68 :: u69 :: u70 :: u71 :: u72 :: u73 :: u74 :: u75 :: u76 :: u77 :: u78 :: u79 :: u80 :: u81 :: u82 :: u83 :: u84 :: u85 :: u86 :: u87 :: u88 :: u89 :: u90 :: u91 :: u92 :: u93 :: u94 :: u95 :: u96 :: u97 :: u98 :: u99 :: u100 :: u101 :: u102 :: u103 :: u104 :: u105 :: u106 :: u107 :: u108 :: u109 :: u110 :: u111 :: u112 :: u113 :: u114 :: u115 :: u116 :: u117 :: u118 :: u119 :: u120 :: u121 :: u122 :: u123 :: u124 :: u125 :: u126 :: u127 :: u128 :: []), []⟩ w0 := by
  conv => arg 2; whnf
  have hw1 : IntKind.i64.wrap ((i : Int) + 1) = (i : Int) + 1 := by rw [IntWalk.i64_in _ (by omega)]
  have hw2 : IntKind.u32.wrap ((i : Int) + 1) = (i : Int) + 1 := by rw [IntKind.wrap_u32]; omega
  have hw3 : IntKind.u8.wrap (i : Int) = (i : Int) := by rw [IntKind.wrap_u8]; omega
  have hrow := two_row w0 i (by omega) 5
  have hstr := hrow.string (P := Try.prog) 60 9 5 (n := 2) (cap := 2) rfl Try.underlying60 Try.underlying5 Try.underlying9
  have hba := (Below.refl w0.heap.size w0).alloc (Nat.le_refl _) (.cells #[.int .u8 107, .int .u8 (i : Int)] 5)
  obtain ⟨K, hK⟩ : ∃ S : ByteArray, (⟨[107, UInt8.ofNat i].toArray⟩ : ByteArray) = S := ⟨_, rfl⟩
  rw [hK] at hstr
  clear hrow hK
  obtain ⟨⟨a0, a1, a14⟩, ⟨a2, a3, a4⟩, ⟨a5, a6, a7⟩, ⟨a8, a9, a10⟩, ⟨a11, a12, a13⟩⟩ := HI.out.a.cells
  obtain ⟨PX, hPX⟩ : ∃ P, X.ptr = P := ⟨_, rfl⟩
  rw [hPX] at a14
  have hd := mdo_any ⟨3#8, BitVec.ofNat 32 (i + 1), 2, K, ByteArray.empty, ⟨#[118, 97, 108, 117, 101]⟩, 0#8⟩ M X (w0.alloc (.cells #[.int .u8 107, .int .u8 (i : Int)] 5)) (by have := HA.out.fit.all; omega) (HI.out.t.below hba) HI.out.s (by rw [sh_cnt, HI.out.s]; have := HA.out.fit.kv.num; omega)
  have hM := macDo_all HA.out ⟨3#8, BitVec.ofNat 32 (i + 1), 2, K, ByteArray.empty, ⟨#[118, 97, 108, 117, 101]⟩, 0#8⟩
  have hN := nodes_do M ⟨3#8, BitVec.ofNat 32 (i + 1), 2, K, ByteArray.empty, ⟨#[118, 97, 108, 117, 101]⟩, 0#8⟩
  obtain ⟨⟨M2, code, text, fresh⟩, hO⟩ : ∃ r, macDo M ⟨3#8, BitVec.ofNat 32 (i + 1), 2, K, ByteArray.empty, ⟨#[118, 97, 108, 117, 101]⟩, 0#8⟩ = r := ⟨_, rfl⟩
  rw [hO] at hd hM hN
  rw [cmd_eta, hPX] at hd
  have e1 : ((BitVec.ofNat 32 (i + 1)).toNat : Int) = (i : Int) + 1 := by rw [BitVec.toNat_ofNat, Nat.mod_eq_of_lt (by omega)]; omega
  simp only [e1] at hd
  have hd2 : Calls Try.prog 32 #[.agg (macCells M PX).toArray, .agg #[.int .u8 3, .int .u32 ((i : Int) + 1), .int .u8 2, .string K, .string ⟨#[]⟩, .string ⟨#[118, 97, 108, 117, 101]⟩, .int .u8 0]] (w0.alloc (.cells #[.int .u8 107, .int .u8 (i : Int)] 5)) (fun e w' => ∃ Z, e = .returned (.tuple #[macV M2 Z.ptr, repV code text, .bool fresh]) ∧ TreeAt w' Z ∧ Z.sh = M2.sh ∧ Below (w0.alloc (.cells #[.int .u8 107, .int .u8 (i : Int)] 5)).heap.size (w0.alloc (.cells #[.int .u8 107, .int .u8 (i : Int)] 5)) w') := by
    refine hd.mono ?_
    rintro e w' ⟨Z, he, hZ⟩
    exact ⟨Z, he, hZ.at_, hZ.shp, hZ.bel⟩
  rw [mac_eta M PX] at hd2
  unfold repV repCells at hd2
  have Hd := Lib.hid hd2
  have HM := Lib.hid (And.intro hM hN)
  have Hba := Lib.hid hba
  clear hd hd2 hM hN hO hba hPX e1
  go_wp2_with ((with_reducible refine Hd.out.mono ?_); rintro e w2 ⟨Z, rfl, hZ, hZs, hb⟩; have HZ := Lib.hid (And.intro hZ (And.intro hZs hb)); clear hZ hZs hb; have HG := Lib.hid (show MacAt w2 g M X.ptr from HI.out.a.below (Hba.out.trans (HZ.out.2.2.mono Hba.out.size))); have q0 := HG.out.thawed 0; have q1 := HG.out.thawed 1; have q2 := HG.out.thawed 2; have q3 := HG.out.thawed 3; have q4 := HG.out.thawed 4; have q5 := HG.out.thawed 5; have q6 := HG.out.thawed 6; have q7 := HG.out.thawed 7; have q8 := HG.out.thawed 8; have q9 := HG.out.thawed 9; have q10 := HG.out.thawed 10; have q11 := HG.out.thawed 11; have q12 := HG.out.thawed 12; have q13 := HG.out.thawed 13; have q14 := HG.out.thawed 14; clear a0 a1 a2 a3 a4 a5 a6 a7 a8 a9 a10 a11 a12 a13 a14; obtain ⟨⟨c0, c1, c14⟩, ⟨c2, c3, c4⟩, ⟨c5, c6, c7⟩, ⟨c8, c9, c10⟩, ⟨c11, c12, c13⟩⟩ := HG.out.cells; unfold macV; rw [mac_eta M2 Z.ptr])
  refine Hk.out _ _ _ _ _ _ _ _ _ _ _ _ _ _ M2 Z w2 _ ⟨HM.out.1, HM.out.2, Hba.out.trans (HZ.out.2.2.mono Hba.out.size), HZ.out.1, HZ.out.2.1, ?_⟩
  rfl
end Go.Proofs.Ytkngadbeflepoaa
namespace Go.Proofs.Ytkngadbeflepoaa
open Go.RowKit
set_option maxRecDepth 100000 in
set_option maxHeartbeats 16000000 in
theorem short_reg16 (w0 : World) (g b o len cap i : Nat) (M : MacV) (X : Tr) (c : CmdV) {Q : Exit → Act → World → Prop}
    (hQ : ∀ c a d v w, Q (.panic c) (Act.put a d v) w → Q (.panic c) a w) (HI : Hid (OneI w0 g M X)) (HA : Hid (MacAll M)) (hlt : (i : Int) < (len : Int)) (Hc : Hid (CmdStay w0 b (o + i * 7) c))
    (u0 u2 u3 u4 u5 u6 u7 u9 u10 u12 u13 u14 u15 u16 u17 u18 u19 u20 u21 u22 u23 u24 u25 u26 u27 u28 u29 u30 u31 u32 u33 u34 u35 u36 u37 u38 u39 u40 u41 u42 u43 u44 u45 u46 u47 u48 u49 u50 u51 u52 u53 u54 u55 u56 u57 u58 u59 u60 u61 u62 u63 u64 u65 u66 u67 u68 u69 u70 u71 u72 u73 u74 u75 u76 u77 u78 u79 u80 u81 u82 u83 u84 u85 u86 u87 u88 u89 u90 u91 u92 u93 u94 u95 u96 u97 u98 u99 u100 u101 u102 u103 u104 u105 u106 u107 u108 u109 u110 u111 u112 u113 u114 u115 u116 u117 u118 u119 u120 u121 u122 u123 u124 u125 u126 u127 u128 : Value)
    (Hk : Hid (∀ (s63 s64 s65 s66 s67 s68 s69 s70 s71 s72 : Value) (Z : Tr) (y w2 : World), Below w0.heap.size w0 y ∧ TreeAt y Z ∧ Z.sh = (macDo M c).m.sh ∧ w2 = rowSt y g 0 (macCells (macDo M c).m Z.ptr) → Q .normal ⟨List.toArray (u0 :: Value.slice (some ⟨b, o, none⟩) len cap :: u2 :: u3 :: u4 :: u5 :: u6 :: u7 :: Value.pointer (some ⟨g, 0, none⟩) :: u9 :: u10 :: Value.int .i64 (i : Int) :: u12 :: u13 :: u14 :: u15 :: u16 :: u17 :: u18 :: u19 :: u20 :: u21 :: u22 :: u23 :: u24 :: u25 :: u26 :: u27 :: u28 :: u29 :: u30 :: u31 :: u32 :: u33 :: u34 :: u35 :: u36 :: u37 :: u38 :: u39 :: u40 :: u41 :: u42 :: u43 :: u44 :: u45 :: u46 :: u47 :: u48 :: u49 :: u50 :: u51 :: u52 :: u53 :: u54 :: u55 :: u56 :: u57 :: u58 :: u59 :: u60 :: u61 :: u62 :: s63 :: s64 :: s65 :: s66 :: s67 :: s68 :: s69 :: s70 :: s71 :: s72 :: u73 :: u74 :: u75 :: u76 :: u77 :: u78 :: u79 :: u80 :: u81 :: u82 :: u83 :: u84 :: u85 :: u86 :: u87 :: u88 :: u89 :: u90 :: u91 :: u92 :: u93 :: u94 :: u95 :: u96 :: u97 :: u98 :: u99 :: u100 :: u101 :: u102 :: u103 :: u104 :: u105 :: u106 :: u107 :: u108 :: u109 :: u110 :: u111 :: u112 :: u113 :: u114 :: u115 :: u116 :: u117 :: u118 :: u119 :: u120 :: u121 :: u122 :: u123 :: u124 :: u125 :: u126 :: u127 :: u128 :: []), []⟩ w2)) :
    Code.wp Try.prog (findR 16 (Try.f10.body.getD .skip)) Q ⟨List.toArray (u0 :: Value.slice (some ⟨b, o, none⟩) len cap :: u2 :: u3 :: u4 :: u5 :: u6 :: u7 :: Value.pointer (some ⟨g, 0, none⟩) :: u9 :: u10 :: Value.int .i64 (i : Int) :: u12 :: u13 :: u14 :: u15 :: u16 :: u17 :: u18 :: u19 :: u20 :: u21 :: u22 :: u23 :: u24 :: u25 :: u26 :: u27 :: u28 :: u29 :: u30 :: u31 :: u32 :: u33 :: u34 :: u35 :: u36 :: u37 :: u38 :: u39 :: u40 :: u41 :: u42 :: u43 :: u44 :: u45 :: u46 :: u47 :: u48 :: u49 :: u50 :: u51 :: u52 :: u53 :: u54 :: u55 :: u56 :: u57 :: u58 :: u59 :: u60 :: u61 :: u62 :: u63 :: u64 :: u65 :: u66 :: u67 :: u68 :: u69 :: u70 :: u71 :: u72 :: u73 :: u74 :: u75 :: u76 :: u77 :: u78 :: u79 :: u80 :: u81 :: u82 :: u83 :: u84 :: u85 :: u86 :: u87 :: u88 :: u89 :: u90 :: u91 :: u92 :: u93 :: u94 :: u95 :: u96 :: u97 :: u98 :: u99 :: u100 :: u101 :: u102 :: u103 :: u104 :: u105 :: u106 :: u107 :: u108 :: u109 :: u110 :: u111 :: u112 :: u113 :: u114 :: u115 :: u116 :: u117 :: u118 :: u119 :: u120 :: u121 :: u122 :: u123 :: u124 :: u125 :: u126 :: u127 :: u128 :: []), []⟩ w0 := by
  conv => arg 2; whnf
  obtain ⟨⟨M2, code, text, fresh⟩, hO⟩ : ∃ r, macDo M c = r := ⟨_, rfl⟩
  have hdo := fun (y : World) (hy : KeptW w0 y) => mdo_any c M X y (by have := HA.out.fit.all; omega) (HI.out.t.below (KeptW.bel hy)) HI.out.s (by rw [sh_cnt, HI.out.s]; have := HA.out.fit.kv.num; omega)
  rw [hO] at Hk hdo
  obtain ⟨VA, hVA⟩ : ∃ V, macV M X.ptr = V := ⟨_, rfl⟩
  rw [hVA] at hdo
  unfold repV repCells at hdo
  have Hdo := Lib.hid hdo; clear hdo hO
  have HVA := Lib.hid hVA; clear hVA
  refine (wpIn_wide (n := 1)).1 ?_
  refine RegK.wpIn_region_can (F := Fence.wide) (KeptW w0) [(0, 0), (1, 0), (2, 0), (3, 0), (4, 0), (5, 1), (6, 2), (7, 2), (8, 2), (9, 2), (10, 3)] (by kernel_rfl) (by kernel_rfl) (by kernel_rfl) hQ ⟨rfl, rfl, rfl, Nat.le_refl _, fun _ _ => rfl⟩ ?_
  dsimp only [RegK.pick, List.getElem?_cons_zero, List.getElem?_cons_succ]
  change RegK.Can _ _ _ _ _ _ _ _ w0.drew
  have hkd : KeptW w0 w0.drew := ⟨rfl, rfl, rfl, Nat.le_refl _, fun _ _ => rfl⟩
  generalize w0.drew = v1 at *
  refine RegK.can_reads ?_
  intro K hK
  go_simp
  refine ⟨VA, fun y hy => ?_, hK _ ?_⟩
  · rw [← HVA.out]
    unfold macV
    rw [mac_eta M X.ptr]
    obtain ⟨⟨m0, m1, m14⟩, ⟨m2, m3, m4⟩, ⟨m5, m6, m7⟩, ⟨m8, m9, m10⟩, ⟨m11, m12, m13⟩⟩ := (HI.out.a.below (KeptW.bel hy)).cells
    go_simp
  clear hK K
  iterate 3 (refine RegK.can_reads ?_; intro K hK; go_simp; (first | refine ⟨_, fun _ _ => rfl, hK _ ?_⟩ | refine hK _ ?_); clear hK K)
  refine RegK.can_reads ?_
  intro K hK
  go_simp
  refine ⟨.agg (cmdCells c).toArray, fun y hy => ?_, hK _ ?_⟩
  · obtain ⟨f0, f1, f2, f3, f4, f5, f6⟩ := Hc.out y (KeptW.bel hy)
    rw [cmd_eta]
    go_simp
  clear hK K
  refine RegK.can_turns (fun _ => trivial) ?_
  intro K K0 hK hK0
  go_simp
  refine ⟨trivial, ?_⟩
  refine (callsIn_wide.2 (Hdo.out v1 hkd)).mono ?_
  rintro e v2 ⟨Z, rfl, hZ⟩
  have v2k : KeptW w0 v2 := KeptW.mono hkd hZ.bel
  refine hK _ _ v2k ?_
  clear hK K hK0 K0
  have HZ := Lib.hid (show TreeAt v2 Z ∧ Z.sh = M2.sh from ⟨hZ.at_, hZ.shp⟩)
  clear hZ
  dsimp only
  obtain ⟨VZ, hVZ⟩ : ∃ V, macV M2 Z.ptr = V := ⟨_, rfl⟩
  rw [hVZ]
  have HVZ := Lib.hid hVZ; clear hVZ
  iterate 4 (refine RegK.can_pure ?_; intro K hK; go_simp; (first | refine ⟨_, fun _ => rfl, hK _ ?_⟩ | refine hK _ ?_); clear hK K)
  obtain ⟨q0, q1⟩ := mac_store (HI.out.a.below (KeptW.bel v2k)) HVZ.out
  simp only [Value.cells] at q0 q1
  refine RegK.can_frees (fun _ => trivial) ?_
  intro K K0 hK hK0
  go_simp
  refine hK (fun _ => True) _ _ trivial ?_
  clear hK K hK0 K0
  refine RegK.can_nil ?_
  exact Hk.out _ _ _ _ _ _ _ _ _ _ Z v2 _ ⟨KeptW.bel v2k, HZ.out.1, HZ.out.2, rfl⟩
end Go.Proofs.Ytkngadbeflepoaa
namespace Go.Proofs.Ytkngadbeflepoaa
open Go.RowKit
set_option maxRecDepth 100000 in
set_option maxHeartbeats 16000000 in
theorem short_reg19 (w0 : World) (g1 g2 : Nat) (A B : MacV) (X Y : Tr) {Q : Exit → Act → World → Prop}
    (HI : Hid (TwoI w0 g1 g2 A B X Y)) (HA : Hid (MacAll A ∧ MacAll B ∧ A.all = B.all))
    (u0 u1 u2 u3 u4 u6 u7 u9 u10 u11 u12 u13 u14 u15 u16 u17 u18 u19 u20 u21 u22 u23 u24 u25 u26 u27 u28 u29 u30 u31 u32 u33 u34 u35 u36 u37 u38 u39 u40 u41 u42 u43 u44 u45 u46 u47 u48 u49 u50 u51 u52 u53 u54 u55 u56 u57 u58 u59 u60 u61 u62 u63 u64 u65 u66 u67 u68 u69 u70 u71 u72 u73 u74 u75 u76 u77 u78 u79 u80 u81 u82 u83 u84 u85 u86 u87 u88 u89 u90 u91 u92 u93 u94 u95 u96 u97 u98 u99 u100 u101 u102 u103 u104 u105 u106 u107 u108 u109 u110 u111 u112 u113 u114 u115 u116 u117 u118 u119 u120 u121 u122 u123 u124 u125 u126 u127 u128 : Value)
    (Hk : Hid (∀ (s85 s86 s87 s88 : Value) (w2 : World), Below w0.heap.size w0 w2 → Q .normal ⟨List.toArray (u0 :: u1 :: u2 :: u3 :: u4 :: Value.pointer (some ⟨g1, 0, none⟩) :: u6 :: u7 :: Value.pointer (some ⟨g2, 0, none⟩) :: u9 :: u10 :: u11 :: Value.string ⟨(diffM A B).toArray⟩ :: Value.int .i64 0 :: u14 :: u15 :: u16 :: u17 :: u18 :: u19 :: u20 :: u21 :: u22 :: u23 :: u24 :: u25 :: u26 :: u27 :: u28 :: u29 :: u30 :: u31 :: u32 :: u33 :: u34 :: u35 :: u36 :: u37 :: u38 :: u39 :: u40 :: u41 :: u42 :: u43 :: u44 :: u45 :: u46 :: u47 :: u48 :: u49 :: u50 :: u51 :: u52 :: u53 :: u54 :: u55 :: u56 :: u57 :: u58 :: u59 :: u60 :: u61 :: u62 :: u63 :: u64 :: u65 :: u66 :: u67 :: u68 :: u69 :: u70 :: u71 :: u72 :: u73 :: u74 :: u75 :: u76 :: u77 :: u78 :: u79 :: u80 :: u81 :: u82 :: u83 :: u84 :: s85 :: s86 :: s87 :: s88 :: Value.string ⟨(diffM A B).toArray⟩ :: Value.int .i64 0 :: u91 :: u92 :: u93 :: u94 :: u95 :: u96 :: u97 :: u98 :: u99 :: u100 :: u101 :: u102 :: u103 :: u104 :: u105 :: u106 :: u107 :: u108 :: u109 :: u110 :: u111 :: u112 :: u113 :: u114 :: u115 :: u116 :: u117 :: u118 :: u119 :: u120 :: u121 :: u122 :: u123 :: u124 :: u125 :: u126 :: u127 :: u128 :: []), []⟩ w2)) :
    Code.wp Try.prog (findR 19 (Try.f10.body.getD .skip)) Q ⟨List.toArray (u0 :: u1 :: u2 :: u3 :: u4 :: Value.pointer (some ⟨g1, 0, none⟩) :: u6 :: u7 :: Value.pointer (some ⟨g2, 0, none⟩) :: u9 :: u10 :: u11 :: u12 :: u13 :: u14 :: u15 :: u16 :: u17 :: u18 :: u19 :: u20 :: u21 :: u22 :: u23 :: u24 :: u25 :: u26 :: u27 :: u28 :: u29 :: u30 :: u31 :: u32 :: u33 :: u34 :: u35 :: u36 :: u37 :: u38 :: u39 :: u40 :: u41 :: u42 :: u43 :: u44 :: u45 :: u46 :: u47 :: u48 :: u49 :: u50 :: u51 :: u52 :: u53 :: u54 :: u55 :: u56 :: u57 :: u58 :: u59 :: u60 :: u61 :: u62 :: u63 :: u64 :: u65 :: u66 :: u67 :: u68 :: u69 :: u70 :: u71 :: u72 :: u73 :: u74 :: u75 :: u76 :: u77 :: u78 :: u79 :: u80 :: u81 :: u82 :: u83 :: u84 :: u85 :: u86 :: u87 :: u88 :: u89 :: u90 :: u91 :: u92 :: u93 :: u94 :: u95 :: u96 :: u97 :: u98 :: u99 :: u100 :: u101 :: u102 :: u103 :: u104 :: u105 :: u106 :: u107 :: u108 :: u109 :: u110 :: u111 :: u112 :: u113 :: u114 :: u115 :: u116 :: u117 :: u118 :: u119 :: u120 :: u121 :: u122 :: u123 :: u124 :: u125 :: u126 :: u127 :: u128 :: []), []⟩ w0 := by
  conv => arg 2; whnf
  have hd := diff_calls HA.out.1 HA.out.2.1 HA.out.2.2 HI.out.ta HI.out.tb HI.out.sa HI.out.sb
  obtain ⟨PX, hPX⟩ : ∃ P, X.ptr = P := ⟨_, rfl⟩
  obtain ⟨PY, hPY⟩ : ∃ P, Y.ptr = P := ⟨_, rfl⟩
  obtain ⟨S, hS⟩ : ∃ S : ByteArray, (⟨(diffM A B).toArray⟩ : ByteArray) = S := ⟨_, rfl⟩
  rw [hS] at hd Hk
  rw [hPX, hPY] at hd
  unfold macV at hd
  rw [mac_eta A PX, mac_eta B PY] at hd
  have Hd := Lib.hid hd; clear hd hS
  obtain ⟨⟨a0, a1, a14⟩, ⟨a2, a3, a4⟩, ⟨a5, a6, a7⟩, ⟨a8, a9, a10⟩, ⟨a11, a12, a13⟩⟩ := HI.out.a.cells
  rw [hPX] at a14
  obtain ⟨⟨b0, b1, b14⟩, ⟨b2, b3, b4⟩, ⟨b5, b6, b7⟩, ⟨b8, b9, b10⟩, ⟨b11, b12, b13⟩⟩ := HI.out.b.cells
  rw [hPY] at b14
  clear hPX hPY HI
  go_wp2_with ((with_reducible refine Hd.out.mono ?_); rintro e w2 ⟨rfl, hb⟩; have Hb := Lib.hid hb; clear hb)
  exact Hk.out _ _ _ _ _ Hb.out
set_option maxRecDepth 100000 in
set_option maxHeartbeats 16000000 in
theorem short_reg20 (w0 : World) (g1 : Nat) (A : MacV) (X : Tr) {Q : Exit → Act → World → Prop}
    (HI : Hid (OneI w0 g1 A X)) (HA : Hid (MacAll A))
    (u0 u1 u2 u3 u4 u5 u6 u7 u9 u10 u11 u12 u13 u14 u15 u16 u17 u18 u19 u20 u21 u22 u23 u24 u25 u26 u27 u28 u29 u30 u31 u32 u33 u34 u35 u36 u37 u38 u39 u40 u41 u42 u43 u44 u45 u46 u47 u48 u49 u50 u51 u52 u53 u54 u55 u56 u57 u58 u59 u60 u61 u62 u63 u64 u65 u66 u67 u68 u69 u70 u71 u72 u73 u74 u75 u76 u77 u78 u79 u80 u81 u82 u83 u84 u85 u86 u87 u88 u89 u90 u91 u92 u93 u94 u95 u96 u97 u98 u99 u100 u101 u102 u103 u104 u105 u106 u107 u108 u109 u110 u111 u112 u113 u114 u115 u116 u117 u118 u119 u120 u121 u122 u123 u124 u125 u126 u127 u128 : Value)
    (Hk : Hid (∀ (s91 s92 s93 s94 : Value) (w2 : World), Below w0.heap.size w0 w2 → Q .normal ⟨List.toArray (u0 :: u1 :: u2 :: u3 :: u4 :: u5 :: u6 :: u7 :: Value.pointer (some ⟨g1, 0, none⟩) :: u9 :: u10 :: u11 :: u12 :: u13 :: Value.string ⟨(diffM A A).toArray⟩ :: Value.int .i64 0 :: u16 :: u17 :: u18 :: u19 :: u20 :: u21 :: u22 :: u23 :: u24 :: u25 :: u26 :: u27 :: u28 :: u29 :: u30 :: u31 :: u32 :: u33 :: u34 :: u35 :: u36 :: u37 :: u38 :: u39 :: u40 :: u41 :: u42 :: u43 :: u44 :: u45 :: u46 :: u47 :: u48 :: u49 :: u50 :: u51 :: u52 :: u53 :: u54 :: u55 :: u56 :: u57 :: u58 :: u59 :: u60 :: u61 :: u62 :: u63 :: u64 :: u65 :: u66 :: u67 :: u68 :: u69 :: u70 :: u71 :: u72 :: u73 :: u74 :: u75 :: u76 :: u77 :: u78 :: u79 :: u80 :: u81 :: u82 :: u83 :: u84 :: u85 :: u86 :: u87 :: u88 :: u89 :: u90 :: s91 :: s92 :: s93 :: s94 :: Value.string ⟨(diffM A A).toArray⟩ :: Value.int .i64 0 :: u97 :: u98 :: u99 :: u100 :: u101 :: u102 :: u103 :: u104 :: u105 :: u106 :: u107 :: u108 :: u109 :: u110 :: u111 :: u112 :: u113 :: u114 :: u115 :: u116 :: u117 :: u118 :: u119 :: u120 :: u121 :: u122 :: u123 :: u124 :: u125 :: u126 :: u127 :: u128 :: []), []⟩ w2)) :
    Code.wp Try.prog (findR 20 (Try.f10.body.getD .skip)) Q ⟨List.toArray (u0 :: u1 :: u2 :: u3 :: u4 :: u5 :: u6 :: u7 :: Value.pointer (some ⟨g1, 0, none⟩) :: u9 :: u10 :: u11 :: u12 :: u13 :: u14 :: u15 :: u16 :: u17 :: u18 :: u19 :: u20 :: u21 :: u22 :: u23 :: u24 :: u25 :: u26 :: u27 :: u28 :: u29 :: u30 :: u31 :: u32 :: u33 :: u34 :: u35 :: u36 :: u37 :: u38 :: u39 :: u40 :: u41 :: u42 :: u43 :: u44 :: u45 :: u46 :: u47 :: u48 :: u49 :: u50 :: u51 :: u52 :: u53 :: u54 :: u55 :: u56 :: u57 :: u58 :: u59 :: u60 :: u61 :: u62 :: u63 :: u64 :: u65 :: u66 :: u67 :: u68 :: u69 :: u70 :: u71 :: u72 :: u73 :: u74 :: u75 :: u76 :: u77 :: u78 :: u79 :: u80 :: u81 :: u82 :: u83 :: u84 :: u85 :: u86 :: u87 :: u88 :: u89 :: u90 :: u91 :: u92 :: u93 :: u94 :: u95 :: u96 :: u97 :: u98 :: u99 :: u100 :: u101 :: u102 :: u103 :: u104 :: u105 :: u106 :: u107 :: u108 :: u109 :: u110 :: u111 :: u112 :: u113 :: u114 :: u115 :: u116 :: u117 :: u118 :: u119 :: u120 :: u121 :: u122 :: u123 :: u124 :: u125 :: u126 :: u127 :: u128 :: []), []⟩ w0 := by
  conv => arg 2; whnf
  have hd := diff_calls HA.out HA.out rfl HI.out.t HI.out.t HI.out.s HI.out.s
  obtain ⟨PX, hPX⟩ : ∃ P, X.ptr = P := ⟨_, rfl⟩
  obtain ⟨S, hS⟩ : ∃ S : ByteArray, (⟨(diffM A A).toArray⟩ : ByteArray) = S := ⟨_, rfl⟩
  rw [hS] at hd Hk
  rw [hPX] at hd
  unfold macV at hd
  rw [mac_eta A PX] at hd
  have Hd := Lib.hid hd; clear hd hS
  obtain ⟨⟨a0, a1, a14⟩, ⟨a2, a3, a4⟩, ⟨a5, a6, a7⟩, ⟨a8, a9, a10⟩, ⟨a11, a12, a13⟩⟩ := HI.out.a.cells
  rw [hPX] at a14
  clear hPX HI
  go_wp2_with ((with_reducible refine Hd.out.mono ?_); rintro e w2 ⟨rfl, hb⟩; have Hb := Lib.hid hb; clear hb)
  exact Hk.out _ _ _ _ _ Hb.out
end Go.Proofs.Ytkngadbeflepoaa
namespace Go.Proofs.Ytkngadbeflepoaa
open Go.RowKit
set_option maxRecDepth 100000 in
set_option maxHeartbeats 16000000 in
theorem short_reg21 (w0 : World) (B9 B10 : Nat) (cl : List (UInt8 × Value)) (kl : List (ByteArray × Value)) (S1 S2 : ByteArray) {Q : Exit → Act → World → Prop}
    (HC : Hid (MapAt kCl w0 B9 cl ∧ MapAt kNm w0 B10 kl)) (hz2 : (S2.size : Int) = 19) (hz1 : (19 : Int) ≤ (S1.size : Int)) (h9 : cl.length ≤ 30) (h10 : kl.length ≤ 30) (hle : (S1.size : Int) ≤ 19 + 72 * (cl.length : Int) + 83 * (kl.length : Int))
    (u0 u1 u2 u3 u4 u5 u6 u7 u8 u11 u16 u17 u18 u19 u20 u21 u22 u23 u24 u25 u26 u27 u28 u29 u30 u31 u32 u33 u34 u35 u36 u37 u38 u39 u40 u41 u42 u43 u44 u45 u46 u47 u48 u49 u50 u51 u52 u53 u54 u55 u56 u57 u58 u59 u60 u61 u62 u63 u64 u65 u66 u67 u68 u69 u70 u71 u72 u73 u74 u75 u76 u77 u78 u79 u80 u81 u82 u83 u84 u85 u86 u87 u88 u89 u90 u91 u92 u93 u94 u95 u96 u97 u98 u99 u100 u101 u102 u103 u104 u105 u106 u107 u108 u109 u110 u111 u112 u113 u114 u115 u116 u117 u118 u119 u120 u121 u122 u123 u124 u125 u126 u127 u128 : Value)
    (Hk : Hid (∀ (s97 s98 s99 s100 s101 s102 s103 s104 s105 s106 s107 s108 s109 s110 s111 s112 s113 s114 s115 s116 s117 s118 s119 s120 s121 s122 s123 s124 s125 s126 s127 : Value) (w2 : World), Below w0.heap.size w0 w2 → Q .normal ⟨List.toArray (u0 :: u1 :: u2 :: u3 :: Value.bool true :: u5 :: u6 :: u7 :: u8 :: Value.map (some B9) :: Value.map (some B10) :: u11 :: Value.string S1 :: Value.int .i64 0 :: Value.string S2 :: Value.int .i64 0 :: u16 :: u17 :: u18 :: u19 :: u20 :: u21 :: u22 :: u23 :: u24 :: u25 :: u26 :: u27 :: u28 :: u29 :: u30 :: u31 :: u32 :: u33 :: u34 :: u35 :: u36 :: u37 :: u38 :: u39 :: u40 :: u41 :: u42 :: u43 :: u44 :: u45 :: u46 :: u47 :: u48 :: u49 :: u50 :: u51 :: u52 :: u53 :: u54 :: u55 :: u56 :: u57 :: u58 :: u59 :: u60 :: u61 :: u62 :: u63 :: u64 :: u65 :: u66 :: u67 :: u68 :: u69 :: u70 :: u71 :: u72 :: u73 :: u74 :: u75 :: u76 :: u77 :: u78 :: u79 :: u80 :: u81 :: u82 :: u83 :: u84 :: u85 :: u86 :: u87 :: u88 :: u89 :: u90 :: u91 :: u92 :: u93 :: u94 :: u95 :: u96 :: s97 :: s98 :: s99 :: s100 :: s101 :: s102 :: s103 :: s104 :: s105 :: s106 :: s107 :: s108 :: s109 :: s110 :: s111 :: s112 :: s113 :: s114 :: s115 :: s116 :: s117 :: s118 :: s119 :: s120 :: s121 :: s122 :: s123 :: s124 :: s125 :: s126 :: s127 :: Value.bool true :: []), []⟩ w2)) :
    Code.wp Try.prog (findR 21 (Try.f10.body.getD .skip)) Q ⟨List.toArray (u0 :: u1 :: u2 :: u3 :: u4 :: u5 :: u6 :: u7 :: u8 :: Value.map (some B9) :: Value.map (some B10) :: u11 :: Value.string S1 :: Value.int .i64 0 :: Value.string S2 :: Value.int .i64 0 :: u16 :: u17 :: u18 :: u19 :: u20 :: u21 :: u22 :: u23 :: u24 :: u25 :: u26 :: u27 :: u28 :: u29 :: u30 :: u31 :: u32 :: u33 :: u34 :: u35 :: u36 :: u37 :: u38 :: u39 :: u40 :: u41 :: u42 :: u43 :: u44 :: u45 :: u46 :: u47 :: u48 :: u49 :: u50 :: u51 :: u52 :: u53 :: u54 :: u55 :: u56 :: u57 :: u58 :: u59 :: u60 :: u61 :: u62 :: u63 :: u64 :: u65 :: u66 :: u67 :: u68 :: u69 :: u70 :: u71 :: u72 :: u73 :: u74 :: u75 :: u76 :: u77 :: u78 :: u79 :: u80 :: u81 :: u82 :: u83 :: u84 :: u85 :: u86 :: u87 :: u88 :: u89 :: u90 :: u91 :: u92 :: u93 :: u94 :: u95 :: u96 :: u97 :: u98 :: u99 :: u100 :: u101 :: u102 :: u103 :: u104 :: u105 :: u106 :: u107 :: u108 :: u109 :: u110 :: u111 :: u112 :: u113 :: u114 :: u115 :: u116 :: u117 :: u118 :: u119 :: u120 :: u121 :: u122 :: u123 :: u124 :: u125 :: u126 :: u127 :: u128 :: []), []⟩ w0 := by
  conv => arg 2; whnf
  have hn9 := fun ty : TypeId => run_len_at kCl HC.out.1 (t := 101) (E := 4) Try.underlying101 ty
  have hn10 := fun ty : TypeId => run_len_at kNm HC.out.2 (t := 102) (E := 4) Try.underlying102 ty
  generalize cl.length = c at *
  generalize kl.length = k at *
  have e1 : IntKind.i64.wrap (72 * (c : Int)) = 72 * (c : Int) := IntWalk.i64_in _ (by omega)
  have e2 : IntKind.i64.wrap (19 + 72 * (c : Int)) = 19 + 72 * (c : Int) := IntWalk.i64_in _ (by omega)
  have e3 : IntKind.i64.wrap (83 * (k : Int)) = 83 * (k : Int) := IntWalk.i64_in _ (by omega)
  have e4 : IntKind.i64.wrap (19 + 72 * (c : Int) + 83 * (k : Int)) = 19 + 72 * (c : Int) + 83 * (k : Int) := IntWalk.i64_in _ (by omega)
  clear h9 h10 HC
  go_wp2_with ((with_reducible refine (dwakes_any _).mono ?_); rintro e w2 ⟨rfl, hb2⟩; have Hb2 := Lib.hid hb2; clear hb2)
  exact Hk.out _ _ _ _ _ _ _ _ _ _ _ _ _ _ _ _ _ _ _ _ _ _ _ _ _ _ _ _ _ _ _ _ Hb2.out
end Go.Proofs.Ytkngadbeflepoaa
