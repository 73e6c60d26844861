/- Deltas, plain: what Patch tells of a delta, and of one whose checksums are others. Condition: the machines may be told, and have the same nodes. -/
import Derived.Test.YtkngadbeflepoaaZDeltaLeads37
import Derived.Test.YtkngadbeflepoaaZDeltaLeads32
import Derived.Test.YtkngadbeflepoaaZDeltaLeads38
import Derived.Test.YtkngadbeflepoaaZDeltaLeads42
import Derived.Test.YtkngadbeflepoaaZDeltaLeads16
namespace Go.Proofs.Ytkngadbeflepoaa
open Go.RowKit
theorem tabOkB_of {t : TabV} (h : ∀ n, LastFit (t.at_ n)) : ∀ n, tabOkB t n = true
  | 0 => rfl
  | n + 1 => by
    unfold tabOkB
    rw [tabOkB_of h n, Bool.true_and]
    have k := h n
    unfold lastOkB
    simp only [Bool.and_eq_true, Bool.or_eq_true, decide_eq_true_eq]
    refine ⟨⟨k.code, k.text⟩, ?_⟩
    by_cases e : (t.at_ n).seq.toNat = 0
    · exact .inr (lastE_iff.2 (k.zero e))
    · exact .inl e
theorem make_of {M : MacV} (h : MacAll M) : makeOk M = true := by
  unfold makeOk
  rw [h.sets, tabOkB_of h.fit.tab 4]
  simp only [Bool.true_and]
  unfold keysOkB
  simp only [Bool.and_eq_true, decide_eq_true_eq]
  refine ⟨h.fit.kv.num, List.all_eq_true.2 fun p hp => ?_⟩
  have hk := h.fit.key p hp
  unfold pairOkB
  simp only [Bool.and_eq_true, decide_eq_true_eq]
  refine ⟨⟨?_, hk.2⟩, h.fit.kv.val p hp⟩
  intro e
  have h9 : p.1.toList.length = p.1.size := by rw [ByteArray.toList_eq]; exact str_len p.1
  rw [e] at h9
  simp at h9
  omega
/-- What a delta has behind its checksums. -/
def restB (A B : MacV) : List UInt8 := UInt8.ofNat B.mem :: (clientsB A.tab B.tab ++ keysDB (diffL A.sh.kv B.sh.kv))
theorem diffM_as (A B : MacV) : diffM A B = leB (sumM A) 8 ++ (leB (sumM B) 8 ++ restB A B) := by
  unfold diffM sumB restB
  simp only [List.append_assoc]
  rfl
theorem patch_sums {A B : MacV} (hA : MacAll A) (hB : MacAll B) (hall : A.all = B.all) {f g : Nat} (hf : f < 18446744073709551616) (hg : g < 18446744073709551616) :
    patchM A (leB f 8 ++ (leB g 8 ++ restB A B)) = if sumM A = f then (if sumM B = g then (B, 0) else (macNone, 5)) else (macNone, 14) := by
  have h0 : paStep 0 (⟨0, leB f 8 ++ (leB g 8 ++ restB A B)⟩, ⟨0, 0, 0, A.tab, A.sh⟩) = (⟨0, leB g 8 ++ restB A B⟩, ⟨f, 0, 0, A.tab, A.sh⟩) := by
    rw [paStep_0, sum8_app hf]
  have h1 : paStep 1 (⟨0, leB g 8 ++ restB A B⟩, ⟨f, 0, 0, A.tab, A.sh⟩) = (⟨0, restB A B⟩, ⟨f, g, 0, A.tab, A.sh⟩) := by
    rw [paStep_1, sum8_app hg]
  have h2 : paStep 2 (⟨0, restB A B⟩, ⟨f, g, 0, A.tab, A.sh⟩) = (⟨0, clientsB A.tab B.tab ++ keysDB (diffL A.sh.kv B.sh.kv)⟩, ⟨f, g, B.mem, A.tab, A.sh⟩) := by
    have e : (UInt8.ofNat B.mem).toNat = B.mem := by have := hB.fit.mem; simp; omega
    rw [paStep_2]
    unfold restB
    rw [byte_app]
    simp only [e]
  have h3 : paStep 3 (⟨0, clientsB A.tab B.tab ++ keysDB (diffL A.sh.kv B.sh.kv)⟩, ⟨f, g, B.mem, A.tab, A.sh⟩) = (⟨0, keysDB (diffL A.sh.kv B.sh.kv)⟩, ⟨f, g, B.mem, B.tab, A.sh⟩) := by
    rw [paStep_3, clients_app hB.fit.tab]
  have h4 : paStep 4 (⟨0, keysDB (diffL A.sh.kv B.sh.kv)⟩, ⟨f, g, B.mem, B.tab, A.sh⟩) = (⟨0, []⟩, ⟨f, g, B.mem, B.tab, B.sh⟩) := by
    have h := keysD_app (S := A.sh) (U := B.sh) ⟨hA.fit.kv.asc, hA.heap⟩ ⟨hB.fit.kv.asc, hB.heap⟩ hA.fit.key (fun p hp => ⟨hB.fit.key p hp, hB.fit.kv.val p hp⟩) hA.fit.kv.num hB.fit.kv.num []
    rw [List.append_nil] at h
    rw [paStep_4, h]
  have hL : paL 5 0 (⟨0, leB f 8 ++ (leB g 8 ++ restB A B)⟩, ⟨0, 0, 0, A.tab, A.sh⟩) = (⟨0, []⟩, ⟨f, g, B.mem, B.tab, B.sh⟩) := by
    unfold paL
    rw [h0]
    simp only [if_true]
    unfold paL
    rw [h1]
    simp only [if_true]
    unfold paL
    rw [h2]
    simp only [if_true]
    unfold paL
    rw [h3]
    simp only [if_true]
    unfold paL
    rw [h4]
    simp only [if_true]
    unfold paL
    rfl
  have hBB : (⟨A.all, B.mem, B.tab, B.sh⟩ : MacV) = B := by rw [hall]
  unfold patchM
  rw [hL]
  unfold paRes
  simp only [if_true]
  rw [end_nil]
  simp only [if_true]
  rw [hBB, if_pos (make_of hB)]
theorem patch_diff {A B : MacV} (hA : MacAll A) (hB : MacAll B) (hall : A.all = B.all) : patchM A (diffM A B) = (B, 0) := by
  rw [diffM_as, patch_sums hA hB hall (sumM_lt A) (sumM_lt B), if_pos rfl, if_pos rfl]
theorem patch_err {A : MacV} {s : List UInt8} (h : (patchM A s).2 ≠ 0) : (patchM A s).1 = macNone := by
  unfold patchM paRes at *
  split at h
  · split at h
    · split at h
      · split at h
        · split at h
          · exact absurd rfl h
          · rename_i h1 h2 h3 h4 h5; rw [if_pos h1, if_pos h2, if_pos h3, if_pos h4, if_neg h5]
        · rename_i h1 h2 h3 h4; rw [if_pos h1, if_pos h2, if_pos h3, if_neg h4]
      · rename_i h1 h2 h3; rw [if_pos h1, if_pos h2, if_neg h3]
    · rename_i h1 h2; rw [if_pos h1, if_neg h2]
  · rename_i h1; rw [if_neg h1]
end Go.Proofs.Ytkngadbeflepoaa
namespace Go.Proofs.Ytkngadbeflepoaa
open Go.RowKit
/-- Two machines lie there, with their trees. -/
structure TwoI (y : World) (g1 g2 : Nat) (A B : MacV) (X Y : Tr) : Prop where
  a : MacAt y g1 A X.ptr
  b : MacAt y g2 B Y.ptr
  ta : TreeAt y X
  tb : TreeAt y Y
  sa : X.sh = A.sh
  sb : Y.sh = B.sh
theorem TwoI.below {y y' : World} {g1 g2 : Nat} {A B : MacV} {X Y : Tr} (h : TwoI y g1 g2 A B X Y) (hb : Below y.heap.size y y') : TwoI y' g1 g2 A B X Y := ⟨h.a.below hb, h.b.below hb, h.ta.below hb, h.tb.below hb, h.sa, h.sb⟩
/-- A machine lies there, with its tree. -/
structure OneI (y : World) (g : Nat) (A : MacV) (X : Tr) : Prop where
  a : MacAt y g A X.ptr
  t : TreeAt y X
  s : X.sh = A.sh
theorem OneI.below {y y' : World} {g : Nat} {A : MacV} {X : Tr} (h : OneI y g A X) (hb : Below y.heap.size y y') : OneI y' g A X := ⟨h.a.below hb, h.t.below hb, h.s⟩
theorem diff_calls {A B : MacV} (hA : MacAll A) (hB : MacAll B) (hall : A.all = B.all) {X Y : Tr} {w : World} (hX : TreeAt w X) (hY : TreeAt w Y) (hsX : X.sh = A.sh) (hsY : Y.sh = B.sh) :
    Calls Try.prog 48 #[macV A X.ptr, macV B Y.ptr] w fun e w' => e = .returned (.tuple #[.string ⟨(diffM A B).toArray⟩, .int .i64 0]) ∧ Below w.heap.size w w' := by
  have h := ddiff_any A B X Y hA.fit hB.fit w hX hY hsX hsY
  rw [if_pos hall, if_pos hall] at h
  exact h
theorem diffM_len {A B : MacV} (hA : MacFit A) (hB : MacFit B) : (diffM A B).length ≤ maxLen := by
  have h1 := sumB_len A
  have h2 := sumB_len B
  have h3 := cliB_len A.tab (macFit_by hB).tab 4
  have h4 := chgsB_len _ (chg_pair hA.kv.asc hB.kv.asc (macFit_by hB).kv (macFit_by hA).kv)
  have h5 := diff_len _ (Nat.le_refl _) (A := A.sh.kv) (B := B.sh.kv)
  have c1 := cnt_kv A.sh
  have c2 := cnt_kv B.sh
  have n1 := hA.kv.num
  have n2 := hB.kv.num
  have h6 := (numL_len (diffL A.sh.kv B.sh.kv).length).1
  unfold diffM clientsB keysDB maxLen
  simp only [List.length_append, List.length_cons, List.length_nil]
  omega
theorem patch_calls {A B : MacV} (hA : MacAll A) (hB : MacAll B) (hall : A.all = B.all) {X : Tr} {w : World} (hX : TreeAt w X) (hsX : X.sh = A.sh) :
    Calls Try.prog 49 #[macV A X.ptr, .string ⟨(diffM A B).toArray⟩] w fun e w' => ∃ Z, e = .returned (.tuple #[macV B Z.ptr, .int .i64 0]) ∧ TreeAt w' Z ∧ Z.sh = B.sh ∧ Below w.heap.size w w' := by
  have h := dpatch_any A X (diffM A B) (diffM_len hA.fit hB.fit) hA w hX hsX
  rw [patch_diff hA hB hall] at h
  exact h
theorem OneI.two {y : World} {g1 g2 : Nat} {A B : MacV} {X Y : Tr} (h : OneI y g1 A X) (k : OneI y g2 B Y) : TwoI y g1 g2 A B X Y := ⟨h.a, k.a, h.t, k.t, h.s, k.s⟩
theorem patch_none {A : MacV} {s : ByteArray} {c : Nat} (hA : MacAll A) (hs : s.data.toList.length ≤ maxLen) (hc : patchM A s.data.toList = (macNone, c)) {X : Tr} {w : World} (hX : TreeAt w X) (hsX : X.sh = A.sh) :
    Calls Try.prog 49 #[macV A X.ptr, .string s] w fun e w' => e = .returned (.tuple #[macV macNone none, .int .i64 (c : Int)]) ∧ Below w.heap.size w w' := by
  have h := dpatch_any A X s.data.toList hs hA w hX hsX
  rw [hc, str_mk] at h
  refine h.mono ?_
  rintro e w' ⟨Z, rfl, -, hz, hb⟩
  have hz2 : Z = .nil := shp_nil hz
  subst hz2
  exact ⟨rfl, hb⟩
end Go.Proofs.Ytkngadbeflepoaa
namespace Go.Proofs.Ytkngadbeflepoaa
open Go.RowKit
set_option maxRecDepth 100000 in
set_option maxHeartbeats 16000000 in
theorem lead_reg13 (w0 : World) (g1 g2 : Nat) (A B : MacV) (X Y : Tr) {Q : Exit → Act → World → Prop}
    (HI : Hid (TwoI w0 g1 g2 A B X Y)) (HA : Hid (MacAll A ∧ MacAll B ∧ A.all = B.all))
    (u0 u1 u2 u3 u4 u5 u6 u7 u8 u9 u10 u11 u12 u14 u16 u17 u18 u19 u20 u21 u22 u23 u24 u25 u26 u27 u28 u29 u30 u31 u32 u33 u34 u35 u36 u37 u38 u39 u40 u41 u42 u43 u44 u45 u46 u47 u48 u49 u50 u51 u52 u53 u54 u55 u56 u57 u58 u59 u60 u61 u62 u63 u64 u65 u66 u67 u68 u69 u70 u71 u72 u73 u74 u75 u76 u77 u78 u79 u80 u81 u82 u83 u84 u85 u86 u87 u88 u89 u90 u91 u92 u93 u94 u95 u96 u97 u98 u99 u100 u101 u102 u103 u104 u105 u106 u107 u108 u109 u110 u111 u112 u113 u114 u115 u116 u117 u118 u119 u120 u121 u122 u123 u124 u125 u126 u127 u128 u129 u130 u131 u132 u133 u134 u135 u136 u137 u138 u139 u140 u141 u142 u143 u144 u145 u146 u147 u148 u149 u150 u151 u152 u153 u154 u155 : Value)
    (Hk : Hid (∀ (s67 s68 s69 s70 : Value) (w2 : World), Below w0.heap.size w0 w2 → Q .normal ⟨List.toArray (u0 :: u1 :: u2 :: u3 :: u4 :: u5 :: u6 :: u7 :: u8 :: u9 :: u10 :: u11 :: u12 :: Value.pointer (some ⟨g1, 0, none⟩) :: u14 :: Value.pointer (some ⟨g2, 0, none⟩) :: u16 :: u17 :: Value.string ⟨(diffM A B).toArray⟩ :: Value.int .i64 0 :: u20 :: u21 :: u22 :: u23 :: u24 :: u25 :: u26 :: u27 :: u28 :: u29 :: u30 :: u31 :: u32 :: u33 :: u34 :: u35 :: u36 :: u37 :: u38 :: u39 :: u40 :: u41 :: u42 :: u43 :: u44 :: u45 :: u46 :: u47 :: u48 :: u49 :: u50 :: u51 :: u52 :: u53 :: u54 :: u55 :: u56 :: u57 :: u58 :: u59 :: u60 :: u61 :: u62 :: u63 :: u64 :: u65 :: u66 :: s67 :: s68 :: s69 :: s70 :: Value.string ⟨(diffM A B).toArray⟩ :: Value.int .i64 0 :: u73 :: u74 :: u75 :: u76 :: u77 :: u78 :: u79 :: u80 :: u81 :: u82 :: u83 :: u84 :: u85 :: u86 :: u87 :: u88 :: u89 :: u90 :: u91 :: u92 :: u93 :: u94 :: u95 :: u96 :: u97 :: u98 :: u99 :: u100 :: u101 :: u102 :: u103 :: u104 :: u105 :: u106 :: u107 :: u108 :: u109 :: u110 :: u111 :: u112 :: u113 :: u114 :: u115 :: u116 :: u117 :: u118 :: u119 :: u120 :: u121 :: u122 :: u123 :: u124 :: u125 :: u126 :: u127 :: u128 :: u129 :: u130 :: u131 :: u132 :: u133 :: u134 :: u135 :: u136 :: u137 :: u138 :: u139 :: u140 :: u141 :: u142 :: u143 :: u144 :: u145 :: u146 :: u147 :: u148 :: u149 :: u150 :: u151 :: u152 :: u153 :: u154 :: u155 :: []), []⟩ w2)) :
    Code.wp Try.prog (findR 13 (Try.f9.body.getD .skip)) Q ⟨List.toArray (u0 :: u1 :: u2 :: u3 :: u4 :: u5 :: u6 :: u7 :: u8 :: u9 :: u10 :: u11 :: u12 :: Value.pointer (some ⟨g1, 0, none⟩) :: u14 :: Value.pointer (some ⟨g2, 0, none⟩) :: u16 :: u17 :: u18 :: u19 :: u20 :: u21 :: u22 :: u23 :: u24 :: u25 :: u26 :: u27 :: u28 :: u29 :: u30 :: u31 :: u32 :: u33 :: u34 :: u35 :: u36 :: u37 :: u38 :: u39 :: u40 :: u41 :: u42 :: u43 :: u44 :: u45 :: u46 :: u47 :: u48 :: u49 :: u50 :: u51 :: u52 :: u53 :: u54 :: u55 :: u56 :: u57 :: u58 :: u59 :: u60 :: u61 :: u62 :: u63 :: u64 :: u65 :: u66 :: u67 :: u68 :: u69 :: u70 :: u71 :: u72 :: u73 :: u74 :: u75 :: u76 :: u77 :: u78 :: u79 :: u80 :: u81 :: u82 :: u83 :: u84 :: u85 :: u86 :: u87 :: u88 :: u89 :: u90 :: u91 :: u92 :: u93 :: u94 :: u95 :: u96 :: u97 :: u98 :: u99 :: u100 :: u101 :: u102 :: u103 :: u104 :: u105 :: u106 :: u107 :: u108 :: u109 :: u110 :: u111 :: u112 :: u113 :: u114 :: u115 :: u116 :: u117 :: u118 :: u119 :: u120 :: u121 :: u122 :: u123 :: u124 :: u125 :: u126 :: u127 :: u128 :: u129 :: u130 :: u131 :: u132 :: u133 :: u134 :: u135 :: u136 :: u137 :: u138 :: u139 :: u140 :: u141 :: u142 :: u143 :: u144 :: u145 :: u146 :: u147 :: u148 :: u149 :: u150 :: u151 :: u152 :: u153 :: u154 :: u155 :: []), []⟩ w0 := by
  conv => arg 2; whnf
  have hd := diff_calls HA.out.1 HA.out.2.1 HA.out.2.2 HI.out.ta HI.out.tb HI.out.sa HI.out.sb
  obtain ⟨PX, hPX⟩ : ∃ P, X.ptr = P := ⟨_, rfl⟩
  obtain ⟨PY, hPY⟩ : ∃ P, Y.ptr = P := ⟨_, rfl⟩
  obtain ⟨S, hS⟩ : ∃ S : ByteArray, (⟨(diffM A B).toArray⟩ : ByteArray) = S := ⟨_, rfl⟩
  rw [hS] at hd Hk
  rw [hPX, hPY] at hd
  unfold macV at hd
  rw [mac_eta A PX, mac_eta B PY] at hd
  have Hd := Lib.hid hd; clear hd hS
  obtain ⟨⟨a0, a1, a14⟩, ⟨a2, a3, a4⟩, ⟨a5, a6, a7⟩, ⟨a8, a9, a10⟩, ⟨a11, a12, a13⟩⟩ := HI.out.a.cells
  rw [hPX] at a14
  obtain ⟨⟨b0, b1, b14⟩, ⟨b2, b3, b4⟩, ⟨b5, b6, b7⟩, ⟨b8, b9, b10⟩, ⟨b11, b12, b13⟩⟩ := HI.out.b.cells
  rw [hPY] at b14
  clear hPX hPY HI
  go_wp2_with ((with_reducible refine Hd.out.mono ?_); rintro e w2 ⟨rfl, hb⟩; have Hb := Lib.hid hb; clear hb)
  exact Hk.out _ _ _ _ _ Hb.out
set_option maxRecDepth 100000 in
set_option maxHeartbeats 16000000 in
theorem lead_reg19 (w0 : World) (g1 g2 : Nat) (A B : MacV) (X Y : Tr) {Q : Exit → Act → World → Prop}
    (HI : Hid (TwoI w0 g1 g2 A B X Y)) (HA : Hid (MacAll A ∧ MacAll B ∧ A.all = B.all))
    (u0 u1 u2 u3 u4 u5 u6 u7 u8 u9 u10 u12 u14 u15 u16 u17 u18 u19 u20 u21 u22 u23 u24 u25 u26 u27 u28 u29 u30 u31 u32 u33 u34 u35 u36 u37 u38 u39 u40 u41 u42 u43 u44 u45 u46 u47 u48 u49 u50 u51 u52 u53 u54 u55 u56 u57 u58 u59 u60 u61 u62 u63 u64 u65 u66 u67 u68 u69 u70 u71 u72 u73 u74 u75 u76 u77 u78 u79 u80 u81 u82 u83 u84 u85 u86 u87 u88 u89 u90 u91 u92 u93 u94 u95 u96 u97 u98 u99 u100 u101 u102 u103 u104 u105 u106 u107 u108 u109 u110 u111 u112 u113 u114 u115 u116 u117 u118 u119 u120 u121 u122 u123 u124 u125 u126 u127 u128 u129 u130 u131 u132 u133 u134 u135 u136 u137 u138 u139 u140 u141 u142 u143 u144 u145 u146 u147 u148 u149 u150 u151 u152 u153 u154 u155 : Value)
    (Hk : Hid (∀ (s94 s95 s96 s97 : Value) (w2 : World), Below w0.heap.size w0 w2 → Q .normal ⟨List.toArray (u0 :: u1 :: u2 :: u3 :: u4 :: u5 :: u6 :: u7 :: u8 :: u9 :: u10 :: Value.pointer (some ⟨g1, 0, none⟩) :: u12 :: Value.pointer (some ⟨g2, 0, none⟩) :: u14 :: u15 :: u16 :: u17 :: u18 :: u19 :: u20 :: u21 :: Value.string ⟨(diffM A B).toArray⟩ :: Value.int .i64 0 :: u24 :: u25 :: u26 :: u27 :: u28 :: u29 :: u30 :: u31 :: u32 :: u33 :: u34 :: u35 :: u36 :: u37 :: u38 :: u39 :: u40 :: u41 :: u42 :: u43 :: u44 :: u45 :: u46 :: u47 :: u48 :: u49 :: u50 :: u51 :: u52 :: u53 :: u54 :: u55 :: u56 :: u57 :: u58 :: u59 :: u60 :: u61 :: u62 :: u63 :: u64 :: u65 :: u66 :: u67 :: u68 :: u69 :: u70 :: u71 :: u72 :: u73 :: u74 :: u75 :: u76 :: u77 :: u78 :: u79 :: u80 :: u81 :: u82 :: u83 :: u84 :: u85 :: u86 :: u87 :: u88 :: u89 :: u90 :: u91 :: u92 :: u93 :: s94 :: s95 :: s96 :: s97 :: Value.string ⟨(diffM A B).toArray⟩ :: Value.int .i64 0 :: u100 :: u101 :: u102 :: u103 :: u104 :: u105 :: u106 :: u107 :: u108 :: u109 :: u110 :: u111 :: u112 :: u113 :: u114 :: u115 :: u116 :: u117 :: u118 :: u119 :: u120 :: u121 :: u122 :: u123 :: u124 :: u125 :: u126 :: u127 :: u128 :: u129 :: u130 :: u131 :: u132 :: u133 :: u134 :: u135 :: u136 :: u137 :: u138 :: u139 :: u140 :: u141 :: u142 :: u143 :: u144 :: u145 :: u146 :: u147 :: u148 :: u149 :: u150 :: u151 :: u152 :: u153 :: u154 :: u155 :: []), []⟩ w2)) :
    Code.wp Try.prog (findR 19 (Try.f9.body.getD .skip)) Q ⟨List.toArray (u0 :: u1 :: u2 :: u3 :: u4 :: u5 :: u6 :: u7 :: u8 :: u9 :: u10 :: Value.pointer (some ⟨g1, 0, none⟩) :: u12 :: Value.pointer (some ⟨g2, 0, none⟩) :: u14 :: u15 :: u16 :: u17 :: u18 :: u19 :: u20 :: u21 :: u22 :: u23 :: u24 :: u25 :: u26 :: u27 :: u28 :: u29 :: u30 :: u31 :: u32 :: u33 :: u34 :: u35 :: u36 :: u37 :: u38 :: u39 :: u40 :: u41 :: u42 :: u43 :: u44 :: u45 :: u46 :: u47 :: u48 :: u49 :: u50 :: u51 :: u52 :: u53 :: u54 :: u55 :: u56 :: u57 :: u58 :: u59 :: u60 :: u61 :: u62 :: u63 :: u64 :: u65 :: u66 :: u67 :: u68 :: u69 :: u70 :: u71 :: u72 :: u73 :: u74 :: u75 :: u76 :: u77 :: u78 :: u79 :: u80 :: u81 :: u82 :: u83 :: u84 :: u85 :: u86 :: u87 :: u88 :: u89 :: u90 :: u91 :: u92 :: u93 :: u94 :: u95 :: u96 :: u97 :: u98 :: u99 :: u100 :: u101 :: u102 :: u103 :: u104 :: u105 :: u106 :: u107 :: u108 :: u109 :: u110 :: u111 :: u112 :: u113 :: u114 :: u115 :: u116 :: u117 :: u118 :: u119 :: u120 :: u121 :: u122 :: u123 :: u124 :: u125 :: u126 :: u127 :: u128 :: u129 :: u130 :: u131 :: u132 :: u133 :: u134 :: u135 :: u136 :: u137 :: u138 :: u139 :: u140 :: u141 :: u142 :: u143 :: u144 :: u145 :: u146 :: u147 :: u148 :: u149 :: u150 :: u151 :: u152 :: u153 :: u154 :: u155 :: []), []⟩ w0 := by
  conv => arg 2; whnf
  have hd := diff_calls HA.out.1 HA.out.2.1 HA.out.2.2 HI.out.ta HI.out.tb HI.out.sa HI.out.sb
  obtain ⟨PX, hPX⟩ : ∃ P, X.ptr = P := ⟨_, rfl⟩
  obtain ⟨PY, hPY⟩ : ∃ P, Y.ptr = P := ⟨_, rfl⟩
  obtain ⟨S, hS⟩ : ∃ S : ByteArray, (⟨(diffM A B).toArray⟩ : ByteArray) = S := ⟨_, rfl⟩
  rw [hS] at hd Hk
  rw [hPX, hPY] at hd
  unfold macV at hd
  rw [mac_eta A PX, mac_eta B PY] at hd
  have Hd := Lib.hid hd; clear hd hS
  obtain ⟨⟨a0, a1, a14⟩, ⟨a2, a3, a4⟩, ⟨a5, a6, a7⟩, ⟨a8, a9, a10⟩, ⟨a11, a12, a13⟩⟩ := HI.out.a.cells
  rw [hPX] at a14
  obtain ⟨⟨b0, b1, b14⟩, ⟨b2, b3, b4⟩, ⟨b5, b6, b7⟩, ⟨b8, b9, b10⟩, ⟨b11, b12, b13⟩⟩ := HI.out.b.cells
  rw [hPY] at b14
  clear hPX hPY HI
  go_wp2_with ((with_reducible refine Hd.out.mono ?_); rintro e w2 ⟨rfl, hb⟩; have Hb := Lib.hid hb; clear hb)
  exact Hk.out _ _ _ _ _ Hb.out
set_option maxRecDepth 100000 in
set_option maxHeartbeats 16000000 in
theorem lead_reg20 (w0 : World) (g1 g2 : Nat) (A B : MacV) (X Y : Tr) {Q : Exit → Act → World → Prop}
    (HI : Hid (TwoI w0 g1 g2 A B X Y)) (HA : Hid (MacAll A ∧ MacAll B ∧ A.all = B.all))
    (u0 u1 u2 u3 u4 u5 u6 u7 u8 u9 u10 u12 u14 u15 u16 u17 u18 u19 u20 u21 u22 u23 u24 u25 u26 u27 u28 u29 u30 u31 u32 u33 u34 u35 u36 u37 u38 u39 u40 u41 u42 u43 u44 u45 u46 u47 u48 u49 u50 u51 u52 u53 u54 u55 u56 u57 u58 u59 u60 u61 u62 u63 u64 u65 u66 u67 u68 u69 u70 u71 u72 u73 u74 u75 u76 u77 u78 u79 u80 u81 u82 u83 u84 u85 u86 u87 u88 u89 u90 u91 u92 u93 u94 u95 u96 u97 u98 u99 u100 u101 u102 u103 u104 u105 u106 u107 u108 u109 u110 u111 u112 u113 u114 u115 u116 u117 u118 u119 u120 u121 u122 u123 u124 u125 u126 u127 u128 u129 u130 u131 u132 u133 u134 u135 u136 u137 u138 u139 u140 u141 u142 u143 u144 u145 u146 u147 u148 u149 u150 u151 u152 u153 u154 u155 : Value)
    (Hk : Hid (∀ (s100 s101 s102 s103 : Value) (w2 : World), Below w0.heap.size w0 w2 → Q .normal ⟨List.toArray (u0 :: u1 :: u2 :: u3 :: u4 :: u5 :: u6 :: u7 :: u8 :: u9 :: u10 :: Value.pointer (some ⟨g2, 0, none⟩) :: u12 :: Value.pointer (some ⟨g1, 0, none⟩) :: u14 :: u15 :: u16 :: u17 :: u18 :: u19 :: u20 :: u21 :: u22 :: u23 :: Value.string ⟨(diffM A B).toArray⟩ :: Value.int .i64 0 :: u26 :: u27 :: u28 :: u29 :: u30 :: u31 :: u32 :: u33 :: u34 :: u35 :: u36 :: u37 :: u38 :: u39 :: u40 :: u41 :: u42 :: u43 :: u44 :: u45 :: u46 :: u47 :: u48 :: u49 :: u50 :: u51 :: u52 :: u53 :: u54 :: u55 :: u56 :: u57 :: u58 :: u59 :: u60 :: u61 :: u62 :: u63 :: u64 :: u65 :: u66 :: u67 :: u68 :: u69 :: u70 :: u71 :: u72 :: u73 :: u74 :: u75 :: u76 :: u77 :: u78 :: u79 :: u80 :: u81 :: u82 :: u83 :: u84 :: u85 :: u86 :: u87 :: u88 :: u89 :: u90 :: u91 :: u92 :: u93 :: u94 :: u95 :: u96 :: u97 :: u98 :: u99 :: s100 :: s101 :: s102 :: s103 :: Value.string ⟨(diffM A B).toArray⟩ :: Value.int .i64 0 :: u106 :: u107 :: u108 :: u109 :: u110 :: u111 :: u112 :: u113 :: u114 :: u115 :: u116 :: u117 :: u118 :: u119 :: u120 :: u121 :: u122 :: u123 :: u124 :: u125 :: u126 :: u127 :: u128 :: u129 :: u130 :: u131 :: u132 :: u133 :: u134 :: u135 :: u136 :: u137 :: u138 :: u139 :: u140 :: u141 :: u142 :: u143 :: u144 :: u145 :: u146 :: u147 :: u148 :: u149 :: u150 :: u151 :: u152 :: u153 :: u154 :: u155 :: []), []⟩ w2)) :
    Code.wp Try.prog (findR 20 (Try.f9.body.getD .skip)) Q ⟨List.toArray (u0 :: u1 :: u2 :: u3 :: u4 :: u5 :: u6 :: u7 :: u8 :: u9 :: u10 :: Value.pointer (some ⟨g2, 0, none⟩) :: u12 :: Value.pointer (some ⟨g1, 0, none⟩) :: u14 :: u15 :: u16 :: u17 :: u18 :: u19 :: u20 :: u21 :: u22 :: u23 :: u24 :: u25 :: u26 :: u27 :: u28 :: u29 :: u30 :: u31 :: u32 :: u33 :: u34 :: u35 :: u36 :: u37 :: u38 :: u39 :: u40 :: u41 :: u42 :: u43 :: u44 :: u45 :: u46 :: u47 :: u48 :: u49 :: u50 :: u51 :: u52 :: u53 :: u54 :: u55 :: u56 :: u57 :: u58 :: u59 :: u60 :: u61 :: u62 :: u63 :: u64 :: u65 :: u66 :: u67 :: u68 :: u69 :: u70 :: u71 :: u72 :: u73 :: u74 :: u75 :: u76 :: u77 :: u78 :: u79 :: u80 :: u81 :: u82 :: u83 :: u84 :: u85 :: u86 :: u87 :: u88 :: u89 :: u90 :: u91 :: u92 :: u93 :: u94 :: u95 :: u96 :: u97 :: u98 :: u99 :: u100 :: u101 :: u102 :: u103 :: u104 :: u105 :: u106 :: u107 :: u108 :: u109 :: u110 :: u111 :: u112 :: u113 :: u114 :: u115 :: u116 :: u117 :: u118 :: u119 :: u120 :: u121 :: u122 :: u123 :: u124 :: u125 :: u126 :: u127 :: u128 :: u129 :: u130 :: u131 :: u132 :: u133 :: u134 :: u135 :: u136 :: u137 :: u138 :: u139 :: u140 :: u141 :: u142 :: u143 :: u144 :: u145 :: u146 :: u147 :: u148 :: u149 :: u150 :: u151 :: u152 :: u153 :: u154 :: u155 :: []), []⟩ w0 := by
  conv => arg 2; whnf
  have hd := diff_calls HA.out.1 HA.out.2.1 HA.out.2.2 HI.out.ta HI.out.tb HI.out.sa HI.out.sb
  obtain ⟨PX, hPX⟩ : ∃ P, X.ptr = P := ⟨_, rfl⟩
  obtain ⟨PY, hPY⟩ : ∃ P, Y.ptr = P := ⟨_, rfl⟩
  obtain ⟨S, hS⟩ : ∃ S : ByteArray, (⟨(diffM A B).toArray⟩ : ByteArray) = S := ⟨_, rfl⟩
  rw [hS] at hd Hk
  rw [hPX, hPY] at hd
  unfold macV at hd
  rw [mac_eta A PX, mac_eta B PY] at hd
  have Hd := Lib.hid hd; clear hd hS
  obtain ⟨⟨a0, a1, a14⟩, ⟨a2, a3, a4⟩, ⟨a5, a6, a7⟩, ⟨a8, a9, a10⟩, ⟨a11, a12, a13⟩⟩ := HI.out.a.cells
  rw [hPX] at a14
  obtain ⟨⟨b0, b1, b14⟩, ⟨b2, b3, b4⟩, ⟨b5, b6, b7⟩, ⟨b8, b9, b10⟩, ⟨b11, b12, b13⟩⟩ := HI.out.b.cells
  rw [hPY] at b14
  clear hPX hPY HI
  go_wp2_with ((with_reducible refine Hd.out.mono ?_); rintro e w2 ⟨rfl, hb⟩; have Hb := Lib.hid hb; clear hb)
  exact Hk.out _ _ _ _ _ Hb.out
end Go.Proofs.Ytkngadbeflepoaa
