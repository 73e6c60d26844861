/- MachineOnce, its inner loop: commands that came change nothing. No condition. -/
import Derived.Test.YtkngadbeflepoaaMMachineOnce24
namespace Go.Proofs.Ytkngadbeflepoaa
open Go.RowKit

/-- The block of a number. -/
def findBO (k : Nat) : Code → Option Code
  | .block i c => if i = k then some (.block i c) else findBO k c
  | .seq a b => match findBO k a with
    | some c => some c
    | none => findBO k b
  | .loop c => findBO k c
  | .scope c => findBO k c
  | .cond _ a b => match findBO k a with
    | some c => some c
    | none => findBO k b
  | _ => none
def findL (k : Nat) (c : Code) : Code := match findBO k c with
  | some (.block _ c) => c
  | _ => .skip
/-- Machines of the same values are the same, in any world behind the one at hand. -/
def SameTells (M2 : MacV) : Prop := ∀ (V W : Tr) (R S : Option Addr) (x y : World), TreeAt x V → TreeAt x W → (V.ptr = R ∧ V.sh = M2.sh) → (W.ptr = S ∧ W.sh = M2.sh) → Below x.heap.size x y →
      Calls Try.prog 33 #[.agg (macCells M2 R).toArray, .agg (macCells M2 S).toArray] y fun e w' => e = .returned (.bool true) ∧ Below y.heap.size y w'
set_option maxRecDepth 100000 in
set_option maxHeartbeats 32000000 in
theorem once_loop (w w5 : World) (gm gn ga ra gb rb : Nat) (M : MacV) (P Q : Option Addr) (M2 : MacV) (P1 Q1 : Option Addr) (code : Nat) (text : ByteArray) (T X Y : Tr) (b o l1 cap1 : Nat) (z1 : List CmdV) (a2 : Option Addr) (l2 cap2 : Nat) (z2 : List (BitVec 8)) (i : Nat)
    {G : Exit → Act → World → Prop} (hQ : ∀ c a d v w, G (.panic c) (Act.put a d v) w → G (.panic c) a w) (hQ2 : ∀ c a d v w, G (.panic c) a w → G (.panic c) (Act.put a d v) w)
    (HA : Hid (OncePost w5 w gm gn ga ra gb rb M P Q M2 P1 Q1 code text T X Y)) (H1 : Hid (CmdsAt w (some ⟨b, o, none⟩) l1 z1)) (H2 : Hid (U8sAt w a2 l2 z2)) (hlen1' : l1 ≤ 100) (hb' : ¬ (100 : Int) < (l2 : Int)) (hlt : i < l1)
    (Hok2 : Hid (MacOk M2)) (Hcm2 : Hid (∀ j, j < i + 1 → Came M2 (z1.getD j default))) (Hok3 : Hid (SameTells M2))
    (u0 u1 u4 u5 u6 u7 u8 u9 u10 u11 u13 u14 u15 u17 u18 u19 u20 u21 u23 u24 u25 u26 u27 u28 u29 u30 u31 u32 u33 u34 u35 u36 u37 u38 u39 u40 u41 u42 u43 u44 u45 u46 u47 u48 u49 u50 u51 u52 u53 u54 u55 u56 u57 u58 u59 u60 u61 u62 u63 u64 u65 u66 u67 u68 u69 u70 u71 u72 u73 u74 u75 u76 u77 u78 u79 u80 u81 u82 u83 u84 u85 u86 u87 u88 u89 u90 u91 u92 u93 u94 u95 u96 u97 u98 u99 u100 u101 u102 u103 u104 u105 u106 u107 u108 u109 u110 u111 u112 u113 u114 u115 u116 u117 u118 u119 u120 u121 u122 u123 u124 u125 u126 u127 u128 u129 u130 u131 u132 u133 u134 u135 u136 u137 u138 u139 u140 u141 u142 u143 u144 u145 u146 u147 u148 u149 u150 u151 u152 u153 u154 u155 : Value)
    (Hk : Hid (∀ (s8 s22 s23 s24 s25 s26 s118 s119 s120 s121 s122 s123 s124 s125 s126 s127 s128 s129 s130 s131 s132 s133 s134 s135 s136 s137 s138 s139 s140 s141 s142 s143 s144 s145 s146 s147 s148 s149 s150 s151 s152 : Value) (V : Tr) (R : Option Addr) (w6 : World), OncePost w6 w gm gn ga ra gb rb M P Q M2 P1 R code text T X V → G (.exit 2) ⟨List.toArray (u0 :: u1 :: Value.slice (some ⟨b, o, none⟩) l1 cap1 :: Value.slice a2 l2 cap2 :: u4 :: u5 :: u6 :: u7 :: s8 :: u9 :: u10 :: u11 :: Value.int .i64 (i : Int) :: u13 :: u14 :: u15 :: Value.pointer (some ⟨gb, 0, none⟩) :: u17 :: u18 :: u19 :: u20 :: u21 :: s22 :: s23 :: s24 :: s25 :: s26 :: u27 :: u28 :: u29 :: u30 :: u31 :: u32 :: u33 :: u34 :: u35 :: u36 :: u37 :: u38 :: u39 :: u40 :: u41 :: u42 :: u43 :: u44 :: u45 :: u46 :: u47 :: u48 :: u49 :: u50 :: u51 :: u52 :: u53 :: u54 :: u55 :: u56 :: u57 :: u58 :: u59 :: u60 :: u61 :: u62 :: u63 :: u64 :: u65 :: u66 :: u67 :: u68 :: u69 :: u70 :: u71 :: u72 :: u73 :: u74 :: u75 :: u76 :: u77 :: u78 :: u79 :: u80 :: u81 :: u82 :: u83 :: u84 :: u85 :: u86 :: u87 :: u88 :: u89 :: u90 :: u91 :: u92 :: u93 :: u94 :: u95 :: u96 :: u97 :: u98 :: u99 :: u100 :: u101 :: u102 :: u103 :: u104 :: u105 :: u106 :: u107 :: u108 :: u109 :: u110 :: u111 :: u112 :: u113 :: u114 :: u115 :: u116 :: u117 :: s118 :: s119 :: s120 :: s121 :: s122 :: s123 :: s124 :: s125 :: s126 :: s127 :: s128 :: s129 :: s130 :: s131 :: s132 :: s133 :: s134 :: s135 :: s136 :: s137 :: s138 :: s139 :: s140 :: s141 :: s142 :: s143 :: s144 :: s145 :: s146 :: s147 :: s148 :: s149 :: s150 :: s151 :: s152 :: u153 :: u154 :: u155 :: []), []⟩ w6)) :
    Code.wp Try.prog (findL 2 (Try.f5.body.getD .skip)) G ⟨List.toArray (u0 :: u1 :: Value.slice (some ⟨b, o, none⟩) l1 cap1 :: Value.slice a2 l2 cap2 :: u4 :: u5 :: u6 :: u7 :: u8 :: u9 :: u10 :: u11 :: Value.int .i64 (i : Int) :: u13 :: u14 :: u15 :: Value.pointer (some ⟨gb, 0, none⟩) :: u17 :: u18 :: u19 :: u20 :: u21 :: Value.int .i64 0 :: u23 :: u24 :: u25 :: u26 :: u27 :: u28 :: u29 :: u30 :: u31 :: u32 :: u33 :: u34 :: u35 :: u36 :: u37 :: u38 :: u39 :: u40 :: u41 :: u42 :: u43 :: u44 :: u45 :: u46 :: u47 :: u48 :: u49 :: u50 :: u51 :: u52 :: u53 :: u54 :: u55 :: u56 :: u57 :: u58 :: u59 :: u60 :: u61 :: u62 :: u63 :: u64 :: u65 :: u66 :: u67 :: u68 :: u69 :: u70 :: u71 :: u72 :: u73 :: u74 :: u75 :: u76 :: u77 :: u78 :: u79 :: u80 :: u81 :: u82 :: u83 :: u84 :: u85 :: u86 :: u87 :: u88 :: u89 :: u90 :: u91 :: u92 :: u93 :: u94 :: u95 :: u96 :: u97 :: u98 :: u99 :: u100 :: u101 :: u102 :: u103 :: u104 :: u105 :: u106 :: u107 :: u108 :: u109 :: u110 :: u111 :: u112 :: u113 :: u114 :: u115 :: u116 :: u117 :: u118 :: u119 :: u120 :: u121 :: u122 :: u123 :: u124 :: u125 :: u126 :: u127 :: u128 :: u129 :: u130 :: u131 :: u132 :: u133 :: u134 :: u135 :: u136 :: u137 :: u138 :: u139 :: u140 :: u141 :: u142 :: u143 :: u144 :: u145 :: u146 :: u147 :: u148 :: u149 :: u150 :: u151 :: u152 :: u153 :: u154 :: u155 :: []), []⟩ w5 := by
  conv => arg 2; whnf
  have HQ := Lib.hid (And.intro hQ hQ2); clear hQ hQ2
  go_loopw [22] (fun s22 wk => ∃ (k : Nat) (V : Tr) (R : Option Addr), k ≤ l2 ∧ s22 = .int .i64 (k : Int) ∧ OncePost wk w gm gn ga ra gb rb M P Q M2 P1 R code text T X V) (fun s22 _ => l2 - (intOf s22).toNat)
  case atStart => exact ⟨0, Y, Q1, by omega, rfl, HA.out⟩
  case round =>
    clear HA
    obtain ⟨k, V, R, hk, rfl, hA⟩ := hrel
    have HA := Lib.hid hA; clear hA
    by_cases hkl : k < l2
    · have hkl' : (k : Int) < (l2 : Int) := by omega
      have h2' := H2.out
      obtain ⟨d, q, rfl, hdl, hx8⟩ := u8s_cell (H2.out.below HA.out.bel) hkl
      have c0 := hx8 wr (Below.refl _ _)
      clear h2' hx8
      generalize z2.getD k default = x8 at *
      obtain ⟨j, hj⟩ : ∃ j, x8.toNat % l1 = j := ⟨_, rfl⟩
      have hjl : j < l1 := by rw [← hj]; exact Nat.mod_lt _ (by omega)
      have hx256 := x8.isLt
      have hl0 : ¬ (l1 : Int) = 0 := by omega
      have hmod : (x8.toNat : Int).tmod (l1 : Int) = (j : Int) := by rw [← hj]; simp [Int.tmod]
      have hw8 : IntKind.i64.wrap (x8.toNat : Int) = (x8.toNat : Int) := by rw [IntKind.wrap_i64]; omega
      have hwj : IntKind.i64.wrap (j : Int) = (j : Int) := by rw [IntKind.wrap_i64]; omega
      have hksucc := tsucc (n := k) (by omega)
      have Hjl := Lib.hid hjl; clear hjl hj hx256
      go_upto_region 22 with fail
      by_cases hji : j ≤ i
      · have hji' : ¬ (i : Int) < (j : Int) := by omega
        clear hmod hw8 hwj hl0
        go_upto_region 23 with fail
        obtain ⟨b', o', e, hbl, hcs⟩ := cmd_stay (H1.out.below HA.out.bel) Hjl.out
        cases e
        obtain ⟨c, hc⟩ : ∃ c, z1.getD j default = c := ⟨_, rfl⟩
        rw [hc] at hcs
        have Hcs := Lib.hid hcs; clear hcs
        have hcm := Hcm2.out j (by omega)
        rw [hc] at hcm
        obtain ⟨e1, e2⟩ := macDo_stay hcm
        obtain ⟨⟨M3, code3, text3, fresh3⟩, hO⟩ : ∃ r, macDo M2 c = r := ⟨_, rfl⟩
        rw [hO] at e1 e2
        simp only at e1 e2
        rw [e1, e2] at hO
        have HO := Lib.hid hO
        clear hO e1 e2 hcm hc
        have Hlim := Lib.hid (show M2.all < 256 ∧ V.cnt ≤ 4611686018427387903 from ⟨Hok2.out.all, by rw [sh_cnt, HA.out.eb.2]; have := Hok2.out.kv.num; omega⟩)
        have Hb := Lib.hid HA.out.b
        have Htb := Lib.hid HA.out.tb
        have Heb := Lib.hid HA.out.eb
        have hjl' : (j : Int) < (l1 : Int) := by have := Hjl.out; omega
        refine once_reg23 wr gb M2 V R b o l1 cap1 j c M2 code3 text3 false (fun c a d v w h => by exact HQ.out.1 c a d v w h) (fun c a d v w h => by exact HQ.out.2 c a d v w h) Hb Htb Heb Hlim HO hjl' Hcs _ _ _ _ _ _ _ _ _ _ _ _ _ _ _ _ _ _ _ _ _ _ _ _ _ _ _ _ _ _ _ _ _ _ _ _ _ _ _ _ _ _ _ _ _ _ _ _ _ _ _ _ _ _ _ _ _ _ _ _ _ _ _ _ _ _ _ _ _ _ _ _ _ _ _ _ _ _ _ _ _ _ _ _ _ _ _ _ _ _ _ _ _ _ _ _ _ _ _ _ _ _ _ _ _ _ _ _ _ _ _ _ _ _ _ _ _ _ _ _ _ _ _ _ _ _ _ _ _ _ _ _ _ _ _ _ _ _ _ _ _ _ _ _ _ _ _ _ _ _ _ _ _ (Lib.hid ?_)
        intro t135 t136 t137 t138 t139 t140 t141 t142 t143 t144 gc rc Z Z1 w4 hE3
        have HE3 := Lib.hid hE3; clear hE3
        have HA2 := Lib.hid (HA.out.below HE3.out.bel)
        obtain ⟨⟨c0, c1, c14⟩, ⟨c2, c3, c4⟩, ⟨c5, c6, c7⟩, ⟨c8, c9, c10⟩, ⟨c11, c12, c13⟩⟩ := HE3.out.st.cells
        obtain ⟨⟨b0, b1, b14⟩, ⟨b2, b3, b4⟩, ⟨b5, b6, b7⟩, ⟨b8, b9, b10⟩, ⟨b11, b12, b13⟩⟩ := HA2.out.b.cells
        have hs1 := Hok3.out V Z R Z1 w4 w4 HA2.out.tb HE3.out.tr HA2.out.eb ⟨HE3.out.ptr, HE3.out.sh⟩ (Below.refl _ _)
        rw [mac_eta M2 R, mac_eta M2 Z1] at hs1
        have Hs1 := Lib.hid hs1; clear hs1
        go_upto_region 26 with ((with_reducible refine Hs1.out.mono ?_); rintro e wx ⟨rfl, hx⟩; have Hx := Lib.hid hx; clear hx)
        clear c0 c1 c2 c3 c4 c5 c6 c7 c8 c9 c10 c11 c12 c13 c14 b0 b1 b2 b3 b4 b5 b6 b7 b8 b9 b10 b11 b12 b13 b14 Hs1
        have HA3 := Lib.hid (HA2.out.below Hx.out)
        have HS3 := Lib.hid (HE3.out.st.below Hx.out)
        have HT3 := Lib.hid (HE3.out.tr.below Hx.out)
        have HE4 := Lib.hid (And.intro HE3.out.ptr HE3.out.sh)
        clear HA2 HE3 Hx HA Htb Heb Hb
        obtain ⟨⟨c0, c1, c14⟩, ⟨c2, c3, c4⟩, ⟨c5, c6, c7⟩, ⟨c8, c9, c10⟩, ⟨c11, c12, c13⟩⟩ := HS3.out.cells
        obtain ⟨⟨b0, b1, b14⟩, ⟨b2, b3, b4⟩, ⟨b5, b6, b7⟩, ⟨b8, b9, b10⟩, ⟨b11, b12, b13⟩⟩ := HA3.out.b.cells
        have q0 := HA3.out.b.thawed 0; have q1 := HA3.out.b.thawed 1; have q2 := HA3.out.b.thawed 2; have q3 := HA3.out.b.thawed 3; have q4 := HA3.out.b.thawed 4; have q5 := HA3.out.b.thawed 5; have q6 := HA3.out.b.thawed 6; have q7 := HA3.out.b.thawed 7; have q8 := HA3.out.b.thawed 8; have q9 := HA3.out.b.thawed 9; have q10 := HA3.out.b.thawed 10; have q11 := HA3.out.b.thawed 11; have q12 := HA3.out.b.thawed 12; have q13 := HA3.out.b.thawed 13; have q14 := HA3.out.b.thawed 14
        have HZ := Lib.hid (once_set HA3.out HT3.out HE4.out.1 HE4.out.2)
        go_wp2_with fail
        clear c0 c1 c2 c3 c4 c5 c6 c7 c8 c9 c10 c11 c12 c13 c14 b0 b1 b2 b3 b4 b5 b6 b7 b8 b9 b10 b11 b12 b13 b14
        clear q0 q1 q2 q3 q4 q5 q6 q7 q8 q9 q10 q11 q12 q13 q14
        go_roundw
        case rel => exact ⟨k + 1, Z, Z1, by omega, rfl, HZ.out⟩
        case measure => simp [intOf]; omega
      · have hji' : (i : Int) < (j : Int) := by omega
        clear hmod hw8 hwj hl0
        go_wp2_with fail
        go_roundw
        case rel => exact ⟨k + 1, V, R, by omega, rfl, HA.out⟩
        case measure => simp [intOf]; omega
    · have hkl' : ¬ (k : Int) < (l2 : Int) := by omega
      go_wp2_with fail
      exact Hk.out _ _ _ _ _ _ _ _ _ _ _ _ _ _ _ _ _ _ _ _ _ _ _ _ _ _ _ _ _ _ _ _ _ _ _ _ _ _ _ _ _ V R _ HA.out
end Go.Proofs.Ytkngadbeflepoaa
/- MachineOnce, its first test. No condition. -/
namespace Go.Proofs.Ytkngadbeflepoaa
open Go.RowKit

set_option maxRecDepth 100000 in
set_option maxHeartbeats 32000000 in
theorem once_reg12 (w w3 : World) (gm gn ga ra gb rb : Nat) (M : MacV) (P Q : Option Addr) (M2 : MacV) (P1 Q1 : Option Addr) (code : Nat) (text : ByteArray) (T X Y : Tr) (fresh : Bool) {G : Exit → Act → World → Prop}
    (HA : Hid (OncePost w3 w gm gn ga ra gb rb M P Q M2 P1 Q1 code text T X Y)) (Hem : Hid (T.ptr = P ∧ T.sh = M.sh)) (Hst : Hid (fresh = false → M2 = M)) (Hok3 : Hid (SameTells M2))
    (u0 u1 u2 u3 u4 u5 u6 u7 u8 u10 u11 u12 u19 u20 u21 u22 u23 u24 u25 u26 u27 u28 u29 u30 u31 u32 u33 u34 u35 u36 u37 u38 u39 u40 u41 u42 u43 u44 u45 u46 u47 u48 u49 u50 u51 u52 u53 u54 u55 u56 u57 u58 u59 u60 u61 u62 u63 u64 u65 u66 u67 u68 u69 u70 u71 u72 u73 u74 u75 u76 u77 u78 u79 u80 u81 u82 u83 u84 u85 u86 u87 u88 u89 u90 u91 u92 u93 u94 u95 u96 u97 u98 u99 u100 u101 u102 u103 u104 u105 u106 u107 u108 u109 u110 u111 u112 u113 u114 u115 u116 u117 u118 u119 u120 u121 u122 u123 u124 u125 u126 u127 u128 u129 u130 u131 u132 u133 u134 u135 u136 u137 u138 u139 u140 u141 u142 u143 u144 u145 u146 u147 u148 u149 u150 u151 u152 u153 u154 u155 : Value)
    (Hk : Hid (∀ (s71 s72 s73 s74 s75 s76 s77 s78 s79 s80 s81 s82 s83 s84 s85 s86 s87 s88 s89 s90 s91 s92 s93 : Value) (w4 : World), Below w3.heap.size w3 w4 → G .normal ⟨List.toArray (u0 :: u1 :: u2 :: u3 :: u4 :: u5 :: u6 :: u7 :: u8 :: Value.pointer (some ⟨gm, 0, none⟩) :: u10 :: u11 :: u12 :: Value.pointer (some ⟨ga, 0, none⟩) :: Value.pointer (some ⟨ra, 0, none⟩) :: Value.bool fresh :: Value.pointer (some ⟨gb, 0, none⟩) :: Value.pointer (some ⟨rb, 0, none⟩) :: Value.bool fresh :: u19 :: u20 :: u21 :: u22 :: u23 :: u24 :: u25 :: u26 :: u27 :: u28 :: u29 :: u30 :: u31 :: u32 :: u33 :: u34 :: u35 :: u36 :: u37 :: u38 :: u39 :: u40 :: u41 :: u42 :: u43 :: u44 :: u45 :: u46 :: u47 :: u48 :: u49 :: u50 :: u51 :: u52 :: u53 :: u54 :: u55 :: u56 :: u57 :: u58 :: u59 :: u60 :: u61 :: u62 :: u63 :: u64 :: u65 :: u66 :: u67 :: u68 :: u69 :: u70 :: s71 :: s72 :: s73 :: s74 :: s75 :: s76 :: s77 :: s78 :: s79 :: s80 :: s81 :: s82 :: s83 :: s84 :: s85 :: s86 :: s87 :: s88 :: s89 :: s90 :: s91 :: s92 :: s93 :: Value.bool false :: u95 :: u96 :: u97 :: u98 :: u99 :: u100 :: u101 :: u102 :: u103 :: u104 :: u105 :: u106 :: u107 :: u108 :: u109 :: u110 :: u111 :: u112 :: u113 :: u114 :: u115 :: u116 :: u117 :: u118 :: u119 :: u120 :: u121 :: u122 :: u123 :: u124 :: u125 :: u126 :: u127 :: u128 :: u129 :: u130 :: u131 :: u132 :: u133 :: u134 :: u135 :: u136 :: u137 :: u138 :: u139 :: u140 :: u141 :: u142 :: u143 :: u144 :: u145 :: u146 :: u147 :: u148 :: u149 :: u150 :: u151 :: u152 :: u153 :: u154 :: u155 :: []), []⟩ w4)) :
    Code.wp Try.prog (findR 12 (Try.f5.body.getD .skip)) G ⟨List.toArray (u0 :: u1 :: u2 :: u3 :: u4 :: u5 :: u6 :: u7 :: u8 :: Value.pointer (some ⟨gm, 0, none⟩) :: u10 :: u11 :: u12 :: Value.pointer (some ⟨ga, 0, none⟩) :: Value.pointer (some ⟨ra, 0, none⟩) :: Value.bool fresh :: Value.pointer (some ⟨gb, 0, none⟩) :: Value.pointer (some ⟨rb, 0, none⟩) :: Value.bool fresh :: u19 :: u20 :: u21 :: u22 :: u23 :: u24 :: u25 :: u26 :: u27 :: u28 :: u29 :: u30 :: u31 :: u32 :: u33 :: u34 :: u35 :: u36 :: u37 :: u38 :: u39 :: u40 :: u41 :: u42 :: u43 :: u44 :: u45 :: u46 :: u47 :: u48 :: u49 :: u50 :: u51 :: u52 :: u53 :: u54 :: u55 :: u56 :: u57 :: u58 :: u59 :: u60 :: u61 :: u62 :: u63 :: u64 :: u65 :: u66 :: u67 :: u68 :: u69 :: u70 :: u71 :: u72 :: u73 :: u74 :: u75 :: u76 :: u77 :: u78 :: u79 :: u80 :: u81 :: u82 :: u83 :: u84 :: u85 :: u86 :: u87 :: u88 :: u89 :: u90 :: u91 :: u92 :: u93 :: u94 :: u95 :: u96 :: u97 :: u98 :: u99 :: u100 :: u101 :: u102 :: u103 :: u104 :: u105 :: u106 :: u107 :: u108 :: u109 :: u110 :: u111 :: u112 :: u113 :: u114 :: u115 :: u116 :: u117 :: u118 :: u119 :: u120 :: u121 :: u122 :: u123 :: u124 :: u125 :: u126 :: u127 :: u128 :: u129 :: u130 :: u131 :: u132 :: u133 :: u134 :: u135 :: u136 :: u137 :: u138 :: u139 :: u140 :: u141 :: u142 :: u143 :: u144 :: u145 :: u146 :: u147 :: u148 :: u149 :: u150 :: u151 :: u152 :: u153 :: u154 :: u155 :: []), []⟩ w3 := by
  conv => arg 2; whnf
  obtain ⟨r0, r1⟩ := HA.out.r.cells
  obtain ⟨q0, q1⟩ := HA.out.s.cells
  obtain ⟨⟨a0, a1, a14⟩, ⟨a2, a3, a4⟩, ⟨a5, a6, a7⟩, ⟨a8, a9, a10⟩, ⟨a11, a12, a13⟩⟩ := HA.out.a.cells
  obtain ⟨⟨b0, b1, b14⟩, ⟨b2, b3, b4⟩, ⟨b5, b6, b7⟩, ⟨b8, b9, b10⟩, ⟨b11, b12, b13⟩⟩ := HA.out.b.cells
  have hs1 := Hok3.out X Y P1 Q1 w3 w3 HA.out.ta HA.out.tb HA.out.ea HA.out.eb (Below.refl _ _)
  rw [mac_eta M2 P1, mac_eta M2 Q1] at hs1
  have Hs1 := Lib.hid hs1; clear hs1
  cases fresh with
  | true =>
    go_wp2_with ((with_reducible refine Hs1.out.mono ?_); rintro e wx ⟨rfl, hx⟩; have Hx := Lib.hid hx; clear hx)
    exact Hk.out _ _ _ _ _ _ _ _ _ _ _ _ _ _ _ _ _ _ _ _ _ _ _ _ Hx.out
  | false =>
    obtain rfl := Hst.out rfl
    have hs2 := fun y hy => Hok3.out X T P1 P w3 y HA.out.ta HA.out.tm HA.out.ea Hem.out hy
    rw [mac_eta M2 P1, mac_eta M2 P] at hs2
    have Hs2 := Lib.hid hs2; clear hs2
    go_wp2_with (first
      | ((with_reducible refine Hs1.out.mono ?_); clear Hs1; rintro e wx ⟨rfl, hx⟩; have Hx := Lib.hid hx; clear hx; obtain ⟨⟨c0, c1, c14⟩, ⟨c2, c3, c4⟩, ⟨c5, c6, c7⟩, ⟨c8, c9, c10⟩, ⟨c11, c12, c13⟩⟩ := (HA.out.below Hx.out).a.cells; obtain ⟨⟨d0, d1, d14⟩, ⟨d2, d3, d4⟩, ⟨d5, d6, d7⟩, ⟨d8, d9, d10⟩, ⟨d11, d12, d13⟩⟩ := (HA.out.below Hx.out).m.cells)
      | ((with_reducible refine (Hs2.out wx Hx.out).mono ?_); rintro e wy ⟨rfl, hy⟩; have Hy := Lib.hid hy; clear hy))
    exact Hk.out _ _ _ _ _ _ _ _ _ _ _ _ _ _ _ _ _ _ _ _ _ _ _ _ (Hx.out.trans (Hy.out.mono Hx.out.size))
end Go.Proofs.Ytkngadbeflepoaa
