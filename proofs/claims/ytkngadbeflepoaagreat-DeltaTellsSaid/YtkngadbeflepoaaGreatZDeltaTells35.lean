/- The document's deltas (ref14.Diff): a reply's bytes. Condition: the machines may be told. -/
import Derived.Test.YtkngadbeflepoaaGreatZDeltaTells34
import Derived.Test.YtkngadbeflepoaaGreatZDeltaTells33
import Derived.Test.YtkngadbeflepoaaGreatZDeltaTells27
import Derived.Test.YtkngadbeflepoaaGreatZDeltaTells17
namespace Go.Proofs.YtkngadbeflepoaaGreat
open Go.RowKit
set_option maxRecDepth 100000 in
set_option maxHeartbeats 16000000 in
theorem rdiff_reg14 (w0 : World) (g : Nat) (xc : BitVec 8) (xs : BitVec 32) (xo : Nat) (xt Y : ByteArray) {Q : Exit → Act → World → Prop}
    (hQ : ∀ c a d v w, Q (.panic c) (Act.put a d v) w → Q (.panic c) a w) (HK : Hid (KeptRow w0 g ⟨xc, xs, xo, xt⟩)) (hcode : xo < 256) (htext : xt.size ≤ 4096) (hY : Y.size ≤ 1000000)
    (u0 u1 u2 u3 u4 u5 u6 u7 u9 u10 u12 u13 u14 u15 u16 u17 u18 u19 u20 u21 u22 u23 u24 u25 u26 u27 u28 u29 u30 u31 u32 u33 u34 u35 u36 u37 u38 u39 u40 u41 u42 u43 u44 u45 u46 u47 u48 u49 u50 u51 u52 u53 u54 u55 u56 u57 u58 u59 u60 u61 u62 u63 u64 u65 u66 u67 u68 u69 u70 u71 u72 u73 u74 u75 u76 u77 u78 u79 u80 u81 u82 u83 u84 u85 u86 u87 u88 u89 u90 u91 u92 u93 u94 u95 u96 u97 u98 u99 u100 u101 u102 u103 u104 u105 u106 u107 u108 u109 u110 u111 u112 u113 u114 u115 u116 u117 u118 u119 u120 u121 u122 u123 u124 u125 : Value)
    (Hk : Hid (∀ (s57 s58 s59 s60 s61 s62 s63 s64 s65 s66 s67 : Value) (w2 : World), Below w0.heap.size w0 w2 → Q .normal ⟨List.toArray (u0 :: u1 :: u2 :: u3 :: u4 :: u5 :: u6 :: u7 :: Value.string (Y ++ ⟨[UInt8.ofNat xo].toArray⟩ ++ ⟨(strL xt).toArray⟩) :: u9 :: u10 :: Value.pointer (some ⟨g, 0, none⟩) :: u12 :: u13 :: u14 :: u15 :: u16 :: u17 :: u18 :: u19 :: u20 :: u21 :: u22 :: u23 :: u24 :: u25 :: u26 :: u27 :: u28 :: u29 :: u30 :: u31 :: u32 :: u33 :: u34 :: u35 :: u36 :: u37 :: u38 :: u39 :: u40 :: u41 :: u42 :: u43 :: u44 :: u45 :: u46 :: u47 :: u48 :: u49 :: u50 :: u51 :: u52 :: u53 :: u54 :: u55 :: u56 :: s57 :: s58 :: s59 :: s60 :: s61 :: s62 :: s63 :: s64 :: s65 :: s66 :: s67 :: Value.string (Y ++ ⟨[UInt8.ofNat xo].toArray⟩ ++ ⟨(strL xt).toArray⟩) :: u69 :: u70 :: u71 :: u72 :: u73 :: u74 :: u75 :: u76 :: u77 :: u78 :: u79 :: u80 :: u81 :: u82 :: u83 :: u84 :: u85 :: u86 :: u87 :: u88 :: u89 :: u90 :: u91 :: u92 :: u93 :: u94 :: u95 :: u96 :: u97 :: u98 :: u99 :: u100 :: u101 :: u102 :: u103 :: u104 :: u105 :: u106 :: u107 :: u108 :: u109 :: u110 :: u111 :: u112 :: u113 :: u114 :: u115 :: u116 :: u117 :: u118 :: u119 :: u120 :: u121 :: u122 :: u123 :: u124 :: u125 :: []), []⟩ w2)) :
    Code.wp Tryz.prog (findR 14 (Tryz.f8.body.getD .skip)) Q ⟨List.toArray (u0 :: u1 :: u2 :: u3 :: u4 :: u5 :: u6 :: u7 :: Value.string Y :: u9 :: u10 :: Value.pointer (some ⟨g, 0, none⟩) :: u12 :: u13 :: u14 :: u15 :: u16 :: u17 :: u18 :: u19 :: u20 :: u21 :: u22 :: u23 :: u24 :: u25 :: u26 :: u27 :: u28 :: u29 :: u30 :: u31 :: u32 :: u33 :: u34 :: u35 :: u36 :: u37 :: u38 :: u39 :: u40 :: u41 :: u42 :: u43 :: u44 :: u45 :: u46 :: u47 :: u48 :: u49 :: u50 :: u51 :: u52 :: u53 :: u54 :: u55 :: u56 :: u57 :: u58 :: u59 :: u60 :: u61 :: u62 :: u63 :: u64 :: u65 :: u66 :: u67 :: u68 :: u69 :: u70 :: u71 :: u72 :: u73 :: u74 :: u75 :: u76 :: u77 :: u78 :: u79 :: u80 :: u81 :: u82 :: u83 :: u84 :: u85 :: u86 :: u87 :: u88 :: u89 :: u90 :: u91 :: u92 :: u93 :: u94 :: u95 :: u96 :: u97 :: u98 :: u99 :: u100 :: u101 :: u102 :: u103 :: u104 :: u105 :: u106 :: u107 :: u108 :: u109 :: u110 :: u111 :: u112 :: u113 :: u114 :: u115 :: u116 :: u117 :: u118 :: u119 :: u120 :: u121 :: u122 :: u123 :: u124 :: u125 :: []), []⟩ w0 := by
  conv => arg 2; whnf
  have Hlt := Lib.hid (show g < w0.heap.size from (Array.getElem?_eq_some_iff.1 HK.out).1)
  have hc8 : ((UInt8.ofNat xo).toNat : Int) = (xo : Int) := by simp; omega
  have Hone := Lib.hid (fun y : World => (show ReadB (y.alloc (.cells #[.int .u8 (xo : Int)] 5)) (.slice (some ⟨y.heap.size, 0, none⟩) 1 1) [UInt8.ofNat xo] by have h := ReadB.one y (UInt8.ofNat xo) 5; rwa [hc8] at h))
  clear hc8
  have Hstr := Lib.hid (fun y : World => rstr_any xt (by omega) y)
  have hT1 : (⟨(strL xt).toArray⟩ : ByteArray).size ≤ 4200 := by rw [bs_size]; have := strL_len xt; omega
  have hC1 : (⟨[UInt8.ofNat xo].toArray⟩ : ByteArray).size = 1 := rfl
  obtain ⟨T1, hTe⟩ : ∃ S : ByteArray, (⟨(strL xt).toArray⟩ : ByteArray) = S := ⟨_, rfl⟩
  obtain ⟨C1, hCe⟩ : ∃ S : ByteArray, (⟨[UInt8.ofNat xo].toArray⟩ : ByteArray) = S := ⟨_, rfl⟩
  rw [hTe] at Hstr hT1 Hk
  rw [hCe] at hC1 Hk
  have HC := Lib.hid hCe; clear hTe hCe
  have hYC : (Y ++ C1).size ≤ 1000001 := by rw [ByteArray.size_append]; omega
  refine (wpIn_wide (n := 1)).1 ?_
  refine RegJ.wpIn_region_plan (F := Fence.wide) (KeptW w0) (.step 0 0 (.step 1 0 (.step 2 0 (.step 3 0 (.step 7 0 (.step 8 0 (.step 9 0 (.fork 4 (.step 5 0 (.step 6 0 (.step 10 1 (.step 11 0 (.step 12 0 .nil))))) 10 (.step 4 1 (.step 5 0 (.step 6 0 (.step 11 0 (.step 12 0 .nil))))))))))))) (by kernel_rfl) (by kernel_rfl) (by kernel_rfl) hQ ⟨rfl, rfl, rfl, Nat.le_refl _, fun _ _ => rfl⟩ ?_
  dsimp only [RegJ.pickJ, List.getElem?_cons_zero, List.getElem?_cons_succ]
  change RegJ.Can _ _ _ _ _ _ _ _ w0.drew
  have hkd : KeptW w0 w0.drew := ⟨rfl, rfl, rfl, Nat.le_refl _, fun _ _ => rfl⟩
  have hkp := hkd
  generalize w0.drew = v1 at *
  refine RegJ.reads ?_
  intro K hK
  go_simp
  (first | refine ⟨_, fun _ _ => rfl, hK _ ?_⟩ | refine hK _ ?_)
  clear hK K
  refine RegJ.reads ?_
  intro K hK
  go_simp
  (first | refine ⟨_, fun _ _ => rfl, hK _ ?_⟩ | refine hK _ ?_)
  clear hK K
  refine RegJ.reads ?_
  intro K hK
  go_simp
  (first | refine ⟨_, fun _ _ => rfl, hK _ ?_⟩ | refine hK _ ?_)
  clear hK K
  refine RegJ.reads ?_
  intro K hK
  go_simp
  refine ⟨.int .u8 (xo : Int), fun y hy => ?_, hK _ ?_⟩
  · have f0 : y.cell? ⟨g, 2, none⟩ = some (.int .u8 (xo : Int)) := cell_of_row _ _ _ _ _ _ (((KeptW.bel hy).block g Hlt.out).trans HK.out)
    go_simp
  clear hK K
  refine RegJ.reads ?_
  intro K hK
  go_simp
  (first | refine ⟨_, fun _ _ => rfl, hK _ ?_⟩ | refine hK _ ?_)
  clear hK K
  refine RegJ.reads ?_
  intro K hK
  go_simp
  (first | refine ⟨_, fun _ _ => rfl, hK _ ?_⟩ | refine hK _ ?_)
  clear hK K
  refine RegJ.reads ?_
  intro K hK
  go_simp
  refine ⟨.string xt, fun y hy => ?_, hK _ ?_⟩
  · have f0 : y.cell? ⟨g, 3, none⟩ = some (.string xt) := cell_of_row _ _ _ _ _ _ (((KeptW.bel hy).block g Hlt.out).trans HK.out)
    go_simp
  clear hK K
  refine RegJ.forks ?_ ?_
  · skip
    refine RegJ.turns (fun _ => trivial) ?_
    intro K K0 hK hK0
    go_simp
    have hbq := (Below.refl v1.heap.size v1).alloc (Nat.le_refl _) (.cells #[.int .u8 (xo : Int)] 5)
    have x1k : KeptW w0 (v1.alloc (.cells #[.int .u8 (xo : Int)] 5)) := KeptW.mono hkd hbq
    have x1p : KeptW w0 (v1.alloc (.cells #[.int .u8 (xo : Int)] 5)) := KeptW.mono hkp hbq
    have hone := Hone.out v1
    refine hK (KeptW (v1.alloc (.cells #[.int .u8 (xo : Int)] 5))) _ (v1.alloc (.cells #[.int .u8 (xo : Int)] 5)) (fun y hy => KeptW.mono x1p (KeptW.bel hy)) (KeptW.refl _) ?_
    clear hK K hK0 K0 hbq
    generalize v1.alloc (.cells #[.int .u8 (xo : Int)] 5) = x1 at *
    generalize v1.heap.size = gx1 at *
    have x1r := KeptW.refl x1
    refine RegJ.reads ?_
    intro K hK
    go_simp
    refine ⟨.string C1, fun y hy => ?_, hK _ ?_⟩
    · have hcv := (hone.below (KeptW.bel hy)).conv Tryz.underlying61 Tryz.underlying5 Tryz.underlying9
      rw [HC.out] at hcv
      rw [hcv]
      rfl
    clear hK K
    refine RegJ.reads ?_
    intro K hK
    go_simp
    refine ⟨.string (Y ++ C1), fun y hy => ?_, hK _ ?_⟩
    · first | rfl | (rw [if_neg (by omega)]) | (rw [if_neg (by simp only [ByteArray.size_append] at *; omega)])
    clear hK K
    refine RegJ.turns (fun _ => trivial) ?_
    intro K K0 hK hK0
    go_simp
    refine ⟨trivial, ?_⟩
    refine (callsIn_wide.2 (Hstr.out x1)).mono ?_
    rintro e x2 ⟨rfl, hb7⟩
    have x2k : KeptW w0 x2 := KeptW.mono x1k hb7
    have x2p : KeptW x1 x2 := KeptW.mono x1r hb7
    refine hK (KeptW x2) _ x2 (fun y hy => KeptW.mono x2p (KeptW.bel hy)) (KeptW.refl x2) ?_
    clear hK K hK0 K0 hb7
    have x2r := KeptW.refl x2
    refine RegJ.reads ?_
    intro K hK
    go_simp
    refine ⟨.string (Y ++ C1 ++ T1), fun y hy => ?_, hK _ ?_⟩
    · first | rfl | (rw [if_neg (by omega)]) | (rw [if_neg (by simp only [ByteArray.size_append] at *; omega)])
    clear hK K
    refine RegJ.reads ?_
    intro K hK
    go_simp
    (first | refine ⟨_, fun _ _ => rfl, hK _ ?_⟩ | refine hK _ ?_)
    clear hK K
    refine RegJ.nil ?_
    exact Hk.out _ _ _ _ _ _ _ _ _ _ _ _ (KeptW.bel x2k)
  · skip
    refine RegJ.turns (fun _ => trivial) ?_
    intro K K0 hK hK0
    go_simp
    refine ⟨trivial, ?_⟩
    refine (callsIn_wide.2 (Hstr.out v1)).mono ?_
    rintro e x3 ⟨rfl, hb7⟩
    have x3k : KeptW w0 x3 := KeptW.mono hkd hb7
    have x3p : KeptW w0 x3 := KeptW.mono hkp hb7
    refine hK (KeptW x3) _ x3 (fun y hy => KeptW.mono x3p (KeptW.bel hy)) (KeptW.refl x3) ?_
    clear hK K hK0 K0 hb7
    have x3r := KeptW.refl x3
    refine RegJ.turns (fun _ => trivial) ?_
    intro K K0 hK hK0
    go_simp
    have hbq := (Below.refl x3.heap.size x3).alloc (Nat.le_refl _) (.cells #[.int .u8 (xo : Int)] 5)
    have x4k : KeptW w0 (x3.alloc (.cells #[.int .u8 (xo : Int)] 5)) := KeptW.mono x3k hbq
    have x4p : KeptW x3 (x3.alloc (.cells #[.int .u8 (xo : Int)] 5)) := KeptW.mono x3r hbq
    have hone := Hone.out x3
    refine hK (KeptW (x3.alloc (.cells #[.int .u8 (xo : Int)] 5))) _ (x3.alloc (.cells #[.int .u8 (xo : Int)] 5)) (fun y hy => KeptW.mono x4p (KeptW.bel hy)) (KeptW.refl _) ?_
    clear hK K hK0 K0 hbq
    generalize x3.alloc (.cells #[.int .u8 (xo : Int)] 5) = x4 at *
    generalize x3.heap.size = gx4 at *
    have x4r := KeptW.refl x4
    refine RegJ.reads ?_
    intro K hK
    go_simp
    refine ⟨.string C1, fun y hy => ?_, hK _ ?_⟩
    · have hcv := (hone.below (KeptW.bel hy)).conv Tryz.underlying61 Tryz.underlying5 Tryz.underlying9
      rw [HC.out] at hcv
      rw [hcv]
      rfl
    clear hK K
    refine RegJ.reads ?_
    intro K hK
    go_simp
    refine ⟨.string (Y ++ C1), fun y hy => ?_, hK _ ?_⟩
    · first | rfl | (rw [if_neg (by omega)]) | (rw [if_neg (by simp only [ByteArray.size_append] at *; omega)])
    clear hK K
    refine RegJ.reads ?_
    intro K hK
    go_simp
    refine ⟨.string (Y ++ C1 ++ T1), fun y hy => ?_, hK _ ?_⟩
    · first | rfl | (rw [if_neg (by omega)]) | (rw [if_neg (by simp only [ByteArray.size_append] at *; omega)])
    clear hK K
    refine RegJ.reads ?_
    intro K hK
    go_simp
    (first | refine ⟨_, fun _ _ => rfl, hK _ ?_⟩ | refine hK _ ?_)
    clear hK K
    refine RegJ.nil ?_
    exact Hk.out _ _ _ _ _ _ _ _ _ _ _ _ (KeptW.bel x4k)
end Go.Proofs.YtkngadbeflepoaaGreat
namespace Go.Proofs.YtkngadbeflepoaaGreat
open Go.RowKit
set_option maxRecDepth 100000 in
set_option maxHeartbeats 16000000 in
theorem rdiff_reg25 (w0 : World) (g1 g2 m : Nat) (R : ByteArray) (r s : RefM) (A B : MacV) (z y : List KeptV) {Q : Exit → Act → World → Prop}
    (hQ : ∀ c a d v w, Q (.panic c) (Act.put a d v) w → Q (.panic c) a w) (H1 : Hid (RefRow w0 g1 r ∧ RefAt w0 r A z)) (H2 : Hid (RefRow w0 g2 s ∧ RefAt w0 s B y)) (HA : Hid (MacBy A ∧ (macB A).length ≤ maxLen)) (HB : Hid (MacBy B ∧ (macB B).length ≤ maxLen)) (hm : m < 16) (hR : R.size ≤ 5000000)
    (u0 u1 u4 u5 u7 u9 u10 u11 u12 u13 u14 u15 u16 u17 u18 u19 u20 u21 u22 u23 u24 u25 u26 u27 u28 u29 u30 u31 u32 u33 u34 u35 u36 u37 u38 u39 u40 u41 u42 u43 u44 u45 u46 u47 u48 u49 u50 u51 u52 u53 u54 u55 u56 u57 u58 u59 u60 u61 u62 u63 u64 u65 u66 u67 u68 u69 u70 u71 u72 u73 u74 u75 u76 u77 u78 u79 u80 u81 u82 u83 u84 u85 u86 u87 u88 u89 u90 u91 u92 u93 u94 u95 u96 u97 u98 u99 u100 u101 u102 u103 u104 u105 u106 u107 u108 u109 u110 u111 u112 u113 u114 u115 u116 u117 u118 u119 u120 u121 u122 u123 u124 u125 : Value)
    (Hk : Hid (∀ (s112 s113 s114 s115 s116 s117 s118 s119 s120 s121 s122 s123 s124 : Value) (w2 : World), Below w0.heap.size w0 w2 → Q .normal ⟨List.toArray (u0 :: u1 :: Value.pointer (some ⟨g1, 0, none⟩) :: Value.pointer (some ⟨g2, 0, none⟩) :: Value.string (⟨(sumB A).toArray⟩ ++ ⟨(sumB B).toArray⟩ ++ ⟨[UInt8.ofNat B.mem, UInt8.ofNat m].toArray⟩ ++ R) :: Value.int .i64 0 :: Value.int .i64 (m : Int) :: u7 :: Value.string R :: u9 :: u10 :: u11 :: u12 :: u13 :: u14 :: u15 :: u16 :: u17 :: u18 :: u19 :: u20 :: u21 :: u22 :: u23 :: u24 :: u25 :: u26 :: u27 :: u28 :: u29 :: u30 :: u31 :: u32 :: u33 :: u34 :: u35 :: u36 :: u37 :: u38 :: u39 :: u40 :: u41 :: u42 :: u43 :: u44 :: u45 :: u46 :: u47 :: u48 :: u49 :: u50 :: u51 :: u52 :: u53 :: u54 :: u55 :: u56 :: u57 :: u58 :: u59 :: u60 :: u61 :: u62 :: u63 :: u64 :: u65 :: u66 :: u67 :: u68 :: u69 :: u70 :: u71 :: u72 :: u73 :: u74 :: u75 :: u76 :: u77 :: u78 :: u79 :: u80 :: u81 :: u82 :: u83 :: u84 :: u85 :: u86 :: u87 :: u88 :: u89 :: u90 :: u91 :: u92 :: u93 :: u94 :: u95 :: u96 :: u97 :: u98 :: u99 :: u100 :: u101 :: u102 :: u103 :: u104 :: u105 :: u106 :: u107 :: u108 :: u109 :: u110 :: u111 :: s112 :: s113 :: s114 :: s115 :: s116 :: s117 :: s118 :: s119 :: s120 :: s121 :: s122 :: s123 :: s124 :: Value.string (⟨(sumB A).toArray⟩ ++ ⟨(sumB B).toArray⟩ ++ ⟨[UInt8.ofNat B.mem, UInt8.ofNat m].toArray⟩ ++ R) :: []), []⟩ w2)) :
    Code.wp Tryz.prog (findR 25 (Tryz.f8.body.getD .skip)) Q ⟨List.toArray (u0 :: u1 :: Value.pointer (some ⟨g1, 0, none⟩) :: Value.pointer (some ⟨g2, 0, none⟩) :: u4 :: u5 :: Value.int .i64 (m : Int) :: u7 :: Value.string R :: u9 :: u10 :: u11 :: u12 :: u13 :: u14 :: u15 :: u16 :: u17 :: u18 :: u19 :: u20 :: u21 :: u22 :: u23 :: u24 :: u25 :: u26 :: u27 :: u28 :: u29 :: u30 :: u31 :: u32 :: u33 :: u34 :: u35 :: u36 :: u37 :: u38 :: u39 :: u40 :: u41 :: u42 :: u43 :: u44 :: u45 :: u46 :: u47 :: u48 :: u49 :: u50 :: u51 :: u52 :: u53 :: u54 :: u55 :: u56 :: u57 :: u58 :: u59 :: u60 :: u61 :: u62 :: u63 :: u64 :: u65 :: u66 :: u67 :: u68 :: u69 :: u70 :: u71 :: u72 :: u73 :: u74 :: u75 :: u76 :: u77 :: u78 :: u79 :: u80 :: u81 :: u82 :: u83 :: u84 :: u85 :: u86 :: u87 :: u88 :: u89 :: u90 :: u91 :: u92 :: u93 :: u94 :: u95 :: u96 :: u97 :: u98 :: u99 :: u100 :: u101 :: u102 :: u103 :: u104 :: u105 :: u106 :: u107 :: u108 :: u109 :: u110 :: u111 :: u112 :: u113 :: u114 :: u115 :: u116 :: u117 :: u118 :: u119 :: u120 :: u121 :: u122 :: u123 :: u124 :: u125 :: []), []⟩ w0 := by
  conv => arg 2; whnf
  have hmem := H2.out.2.mem
  have hml := HB.out.1.mem
  have hc8 : ((UInt8.ofNat B.mem).toNat : Int) = (B.mem : Int) := by simp; omega
  have hc9 : ((UInt8.ofNat m).toNat : Int) = (m : Int) := by simp; omega
  have hw8 : IntKind.u8.wrap (m : Int) = (m : Int) := by rw [IntKind.wrap_u8]; omega
  have Htwo := Lib.hid (fun x : World => (show ReadB (x.alloc (.cells #[.int .u8 (s.mem : Int), .int .u8 (m : Int)] 5)) (.slice (some ⟨x.heap.size, 0, none⟩) 2 2) [UInt8.ofNat B.mem, UInt8.ofNat m] from ReadB.cells x [UInt8.ofNat B.mem, UInt8.ofNat m] 5 _ (by rw [hmem, ← hc8, ← hc9]; rfl) 2))
  clear hc8 hc9 hmem hml
  have HS1 := Lib.hid (fun (x : World) (hx : KeptW w0 x) => rsum_any r A z HA.out.1 HA.out.2 x (H1.out.2.below (KeptW.bel hx)))
  have HS2 := Lib.hid (fun (x : World) (hx : KeptW w0 x) => rsum_any s B y HB.out.1 HB.out.2 x (H2.out.2.below (KeptW.bel hx)))
  have hz1 : (⟨(sumB A).toArray⟩ : ByteArray).size = 8 := by rw [bs_size]; exact leB_len _ 8
  have hz2 : (⟨(sumB B).toArray⟩ : ByteArray).size = 8 := by rw [bs_size]; exact leB_len _ 8
  have hz3 : (⟨[UInt8.ofNat B.mem, UInt8.ofNat m].toArray⟩ : ByteArray).size = 2 := rfl
  obtain ⟨SA, hSA⟩ : ∃ S : ByteArray, (⟨(sumB A).toArray⟩ : ByteArray) = S := ⟨_, rfl⟩
  obtain ⟨SB, hSB⟩ : ∃ S : ByteArray, (⟨(sumB B).toArray⟩ : ByteArray) = S := ⟨_, rfl⟩
  obtain ⟨C2, hCe⟩ : ∃ S : ByteArray, (⟨[UInt8.ofNat B.mem, UInt8.ofNat m].toArray⟩ : ByteArray) = S := ⟨_, rfl⟩
  rw [hSA] at HS1 hz1 Hk
  rw [hSB] at HS2 hz2 Hk
  rw [hCe] at hz3 Hk
  have HC := Lib.hid hCe; clear hSA hSB hCe
  have hz4 : (SA ++ SB).size = 16 := by rw [ByteArray.size_append]; omega
  have hz5 : (SA ++ SB ++ C2).size = 18 := by rw [ByteArray.size_append]; omega
  obtain ⟨VA, hVA⟩ : ∃ V, Value.agg (refCells r).toArray = V := ⟨_, rfl⟩
  obtain ⟨VB, hVB⟩ : ∃ V, Value.agg (refCells s).toArray = V := ⟨_, rfl⟩
  rw [hVA] at HS1
  rw [hVB] at HS2
  have HVA := Lib.hid hVA; clear hVA
  have HVB := Lib.hid hVB; clear hVB
  refine (wpIn_wide (n := 1)).1 ?_
  refine RegJ.wpIn_region_plan (F := Fence.wide) (KeptW w0) (.step 0 0 (.step 2 0 (.step 5 0 (.step 6 0 (.step 7 0 (.step 8 0 (.step 12 0 (.fork 1 (.fork 3 (.step 4 0 (.step 9 1 (.step 10 0 (.step 11 0 (.step 13 0 (.step 14 0 (.step 15 0 .nil))))))) 9 (.step 10 0 (.step 3 1 (.step 4 0 (.step 11 0 (.step 13 0 (.step 14 0 (.step 15 0 .nil)))))))) 9 (.step 10 0 (.step 1 1 (.step 3 1 (.step 4 0 (.step 11 0 (.step 13 0 (.step 14 0 (.step 15 0 .nil)))))))))))))))) (by kernel_rfl) (by kernel_rfl) (by kernel_rfl) hQ ⟨rfl, rfl, rfl, Nat.le_refl _, fun _ _ => rfl⟩ ?_
  dsimp only [RegJ.pickJ, List.getElem?_cons_zero, List.getElem?_cons_succ]
  change RegJ.Can _ _ _ _ _ _ _ _ w0.drew
  have hkd : KeptW w0 w0.drew := ⟨rfl, rfl, rfl, Nat.le_refl _, fun _ _ => rfl⟩
  have hkp := hkd
  generalize w0.drew = v1 at *
  refine RegJ.reads ?_
  intro K hK
  go_simp
  refine ⟨VA, fun y hy => ?_, hK _ ?_⟩
  · obtain ⟨f0, f1, f2, f3⟩ := (H1.out.1.below (KeptW.bel hy)).cells
    rw [← HVA.out, ref_eta]
    go_simp
  clear hK K
  refine RegJ.reads ?_
  intro K hK
  go_simp
  refine ⟨VB, fun y hy => ?_, hK _ ?_⟩
  · obtain ⟨f0, f1, f2, f3⟩ := (H2.out.1.below (KeptW.bel hy)).cells
    rw [← HVB.out, ref_eta]
    go_simp
  clear hK K
  refine RegJ.reads ?_
  intro K hK
  go_simp
  (first | refine ⟨_, fun _ _ => rfl, hK _ ?_⟩ | refine hK _ ?_)
  clear hK K
  refine RegJ.reads ?_
  intro K hK
  go_simp
  refine ⟨.int .u8 (s.mem : Int), fun y hy => ?_, hK _ ?_⟩
  · have f0 := (H2.out.1.below (KeptW.bel hy)).cells.2.2.1
    go_simp
  clear hK K
  refine RegJ.reads ?_
  intro K hK
  go_simp
  (first | refine ⟨_, fun _ _ => rfl, hK _ ?_⟩ | refine hK _ ?_)
  clear hK K
  refine RegJ.reads ?_
  intro K hK
  go_simp
  (first | refine ⟨_, fun _ _ => rfl, hK _ ?_⟩ | refine hK _ ?_)
  clear hK K
  refine RegJ.reads ?_
  intro K hK
  go_simp
  (first | refine ⟨_, fun _ _ => rfl, hK _ ?_⟩ | refine hK _ ?_)
  clear hK K
  refine RegJ.forks ?_ ?_
  · skip
    refine RegJ.turns (fun _ => trivial) ?_
    intro K K0 hK hK0
    go_simp
    refine ⟨trivial, ?_⟩
    refine (callsIn_wide.2 (HS1.out v1 hkd)).mono ?_
    rintro e x1 ⟨rfl, hb7⟩
    have x1k : KeptW w0 x1 := KeptW.mono hkd hb7
    have x1p : KeptW w0 x1 := KeptW.mono hkp hb7
    refine hK (KeptW x1) _ x1 (fun y hy => KeptW.mono x1p (KeptW.bel hy)) (KeptW.refl x1) ?_
    clear hK K hK0 K0 hb7
    have x1r := KeptW.refl x1
    refine RegJ.forks ?_ ?_
    · skip
      refine RegJ.turns (fun _ => trivial) ?_
      intro K K0 hK hK0
      go_simp
      refine ⟨trivial, ?_⟩
      refine (callsIn_wide.2 (HS2.out x1 x1k)).mono ?_
      rintro e x2 ⟨rfl, hb7⟩
      have x2k : KeptW w0 x2 := KeptW.mono x1k hb7
      have x2p : KeptW x1 x2 := KeptW.mono x1r hb7
      refine hK (KeptW x2) _ x2 (fun y hy => KeptW.mono x2p (KeptW.bel hy)) (KeptW.refl x2) ?_
      clear hK K hK0 K0 hb7
      have x2r := KeptW.refl x2
      refine RegJ.reads ?_
      intro K hK
      go_simp
      refine ⟨.string (SA ++ SB), fun y hy => ?_, hK _ ?_⟩
      · first | rfl | (rw [if_neg (by omega)]) | (rw [if_neg (by simp only [ByteArray.size_append] at *; omega)])
      clear hK K
      refine RegJ.turns (fun _ => trivial) ?_
      intro K K0 hK hK0
      go_simp
      have hbq := (Below.refl x2.heap.size x2).alloc (Nat.le_refl _) (.cells #[.int .u8 (s.mem : Int), .int .u8 (m : Int)] 5)
      have x3k : KeptW w0 (x2.alloc (.cells #[.int .u8 (s.mem : Int), .int .u8 (m : Int)] 5)) := KeptW.mono x2k hbq
      have x3p : KeptW x2 (x2.alloc (.cells #[.int .u8 (s.mem : Int), .int .u8 (m : Int)] 5)) := KeptW.mono x2r hbq
      have hone := Htwo.out x2
      refine hK (KeptW (x2.alloc (.cells #[.int .u8 (s.mem : Int), .int .u8 (m : Int)] 5))) _ (x2.alloc (.cells #[.int .u8 (s.mem : Int), .int .u8 (m : Int)] 5)) (fun y hy => KeptW.mono x3p (KeptW.bel hy)) (KeptW.refl _) ?_
      clear hK K hK0 K0 hbq
      generalize x2.alloc (.cells #[.int .u8 (s.mem : Int), .int .u8 (m : Int)] 5) = x3 at *
      generalize x2.heap.size = gx3 at *
      have x3r := KeptW.refl x3
      refine RegJ.reads ?_
      intro K hK
      go_simp
      refine ⟨.string C2, fun y hy => ?_, hK _ ?_⟩
      · have hcv := (hone.below (KeptW.bel hy)).conv Tryz.underlying61 Tryz.underlying5 Tryz.underlying9
        rw [HC.out] at hcv
        rw [hcv]
        rfl
      clear hK K
      refine RegJ.reads ?_
      intro K hK
      go_simp
      refine ⟨.string (SA ++ SB ++ C2), fun y hy => ?_, hK _ ?_⟩
      · first | rfl | (rw [if_neg (by omega)]) | (rw [if_neg (by simp only [ByteArray.size_append] at *; omega)])
      clear hK K
      refine RegJ.reads ?_
      intro K hK
      go_simp
      refine ⟨.string (SA ++ SB ++ C2 ++ R), fun y hy => ?_, hK _ ?_⟩
      · first | rfl | (rw [if_neg (by omega)]) | (rw [if_neg (by simp only [ByteArray.size_append] at *; omega)])
      clear hK K
      refine RegJ.reads ?_
      intro K hK
      go_simp
      (first | refine ⟨_, fun _ _ => rfl, hK _ ?_⟩ | refine hK _ ?_)
      clear hK K
      refine RegJ.reads ?_
      intro K hK
      go_simp
      (first | refine ⟨_, fun _ _ => rfl, hK _ ?_⟩ | refine hK _ ?_)
      clear hK K
      refine RegJ.nil ?_
      exact Hk.out _ _ _ _ _ _ _ _ _ _ _ _ _ _ (KeptW.bel x3k)
    · skip
      refine RegJ.turns (fun _ => trivial) ?_
      intro K K0 hK hK0
      go_simp
      have hbq := (Below.refl x1.heap.size x1).alloc (Nat.le_refl _) (.cells #[.int .u8 (s.mem : Int), .int .u8 (m : Int)] 5)
      have x4k : KeptW w0 (x1.alloc (.cells #[.int .u8 (s.mem : Int), .int .u8 (m : Int)] 5)) := KeptW.mono x1k hbq
      have x4p : KeptW x1 (x1.alloc (.cells #[.int .u8 (s.mem : Int), .int .u8 (m : Int)] 5)) := KeptW.mono x1r hbq
      have hone := Htwo.out x1
      refine hK (KeptW (x1.alloc (.cells #[.int .u8 (s.mem : Int), .int .u8 (m : Int)] 5))) _ (x1.alloc (.cells #[.int .u8 (s.mem : Int), .int .u8 (m : Int)] 5)) (fun y hy => KeptW.mono x4p (KeptW.bel hy)) (KeptW.refl _) ?_
      clear hK K hK0 K0 hbq
      generalize x1.alloc (.cells #[.int .u8 (s.mem : Int), .int .u8 (m : Int)] 5) = x4 at *
      generalize x1.heap.size = gx4 at *
      have x4r := KeptW.refl x4
      refine RegJ.reads ?_
      intro K hK
      go_simp
      refine ⟨.string C2, fun y hy => ?_, hK _ ?_⟩
      · have hcv := (hone.below (KeptW.bel hy)).conv Tryz.underlying61 Tryz.underlying5 Tryz.underlying9
        rw [HC.out] at hcv
        rw [hcv]
        rfl
      clear hK K
      refine RegJ.turns (fun _ => trivial) ?_
      intro K K0 hK hK0
      go_simp
      refine ⟨trivial, ?_⟩
      refine (callsIn_wide.2 (HS2.out x4 x4k)).mono ?_
      rintro e x5 ⟨rfl, hb7⟩
      have x5k : KeptW w0 x5 := KeptW.mono x4k hb7
      have x5p : KeptW x4 x5 := KeptW.mono x4r hb7
      refine hK (KeptW x5) _ x5 (fun y hy => KeptW.mono x5p (KeptW.bel hy)) (KeptW.refl x5) ?_
      clear hK K hK0 K0 hb7
      have x5r := KeptW.refl x5
      refine RegJ.reads ?_
      intro K hK
      go_simp
      refine ⟨.string (SA ++ SB), fun y hy => ?_, hK _ ?_⟩
      · first | rfl | (rw [if_neg (by omega)]) | (rw [if_neg (by simp only [ByteArray.size_append] at *; omega)])
      clear hK K
      refine RegJ.reads ?_
      intro K hK
      go_simp
      refine ⟨.string (SA ++ SB ++ C2), fun y hy => ?_, hK _ ?_⟩
      · first | rfl | (rw [if_neg (by omega)]) | (rw [if_neg (by simp only [ByteArray.size_append] at *; omega)])
      clear hK K
      refine RegJ.reads ?_
      intro K hK
      go_simp
      refine ⟨.string (SA ++ SB ++ C2 ++ R), fun y hy => ?_, hK _ ?_⟩
      · first | rfl | (rw [if_neg (by omega)]) | (rw [if_neg (by simp only [ByteArray.size_append] at *; omega)])
      clear hK K
      refine RegJ.reads ?_
      intro K hK
      go_simp
      (first | refine ⟨_, fun _ _ => rfl, hK _ ?_⟩ | refine hK _ ?_)
      clear hK K
      refine RegJ.reads ?_
      intro K hK
      go_simp
      (first | refine ⟨_, fun _ _ => rfl, hK _ ?_⟩ | refine hK _ ?_)
      clear hK K
      refine RegJ.nil ?_
      exact Hk.out _ _ _ _ _ _ _ _ _ _ _ _ _ _ (KeptW.bel x5k)
  · skip
    refine RegJ.turns (fun _ => trivial) ?_
    intro K K0 hK hK0
    go_simp
    have hbq := (Below.refl v1.heap.size v1).alloc (Nat.le_refl _) (.cells #[.int .u8 (s.mem : Int), .int .u8 (m : Int)] 5)
    have x6k : KeptW w0 (v1.alloc (.cells #[.int .u8 (s.mem : Int), .int .u8 (m : Int)] 5)) := KeptW.mono hkd hbq
    have x6p : KeptW w0 (v1.alloc (.cells #[.int .u8 (s.mem : Int), .int .u8 (m : Int)] 5)) := KeptW.mono hkp hbq
    have hone := Htwo.out v1
    refine hK (KeptW (v1.alloc (.cells #[.int .u8 (s.mem : Int), .int .u8 (m : Int)] 5))) _ (v1.alloc (.cells #[.int .u8 (s.mem : Int), .int .u8 (m : Int)] 5)) (fun y hy => KeptW.mono x6p (KeptW.bel hy)) (KeptW.refl _) ?_
    clear hK K hK0 K0 hbq
    generalize v1.alloc (.cells #[.int .u8 (s.mem : Int), .int .u8 (m : Int)] 5) = x6 at *
    generalize v1.heap.size = gx6 at *
    have x6r := KeptW.refl x6
    refine RegJ.reads ?_
    intro K hK
    go_simp
    refine ⟨.string C2, fun y hy => ?_, hK _ ?_⟩
    · have hcv := (hone.below (KeptW.bel hy)).conv Tryz.underlying61 Tryz.underlying5 Tryz.underlying9
      rw [HC.out] at hcv
      rw [hcv]
      rfl
    clear hK K
    refine RegJ.turns (fun _ => trivial) ?_
    intro K K0 hK hK0
    go_simp
    refine ⟨trivial, ?_⟩
    refine (callsIn_wide.2 (HS1.out x6 x6k)).mono ?_
    rintro e x7 ⟨rfl, hb7⟩
    have x7k : KeptW w0 x7 := KeptW.mono x6k hb7
    have x7p : KeptW x6 x7 := KeptW.mono x6r hb7
    refine hK (KeptW x7) _ x7 (fun y hy => KeptW.mono x7p (KeptW.bel hy)) (KeptW.refl x7) ?_
    clear hK K hK0 K0 hb7
    have x7r := KeptW.refl x7
    refine RegJ.turns (fun _ => trivial) ?_
    intro K K0 hK hK0
    go_simp
    refine ⟨trivial, ?_⟩
    refine (callsIn_wide.2 (HS2.out x7 x7k)).mono ?_
    rintro e x8 ⟨rfl, hb7⟩
    have x8k : KeptW w0 x8 := KeptW.mono x7k hb7
    have x8p : KeptW x7 x8 := KeptW.mono x7r hb7
    refine hK (KeptW x8) _ x8 (fun y hy => KeptW.mono x8p (KeptW.bel hy)) (KeptW.refl x8) ?_
    clear hK K hK0 K0 hb7
    have x8r := KeptW.refl x8
    refine RegJ.reads ?_
    intro K hK
    go_simp
    refine ⟨.string (SA ++ SB), fun y hy => ?_, hK _ ?_⟩
    · first | rfl | (rw [if_neg (by omega)]) | (rw [if_neg (by simp only [ByteArray.size_append] at *; omega)])
    clear hK K
    refine RegJ.reads ?_
    intro K hK
    go_simp
    refine ⟨.string (SA ++ SB ++ C2), fun y hy => ?_, hK _ ?_⟩
    · first | rfl | (rw [if_neg (by omega)]) | (rw [if_neg (by simp only [ByteArray.size_append] at *; omega)])
    clear hK K
    refine RegJ.reads ?_
    intro K hK
    go_simp
    refine ⟨.string (SA ++ SB ++ C2 ++ R), fun y hy => ?_, hK _ ?_⟩
    · first | rfl | (rw [if_neg (by omega)]) | (rw [if_neg (by simp only [ByteArray.size_append] at *; omega)])
    clear hK K
    refine RegJ.reads ?_
    intro K hK
    go_simp
    (first | refine ⟨_, fun _ _ => rfl, hK _ ?_⟩ | refine hK _ ?_)
    clear hK K
    refine RegJ.reads ?_
    intro K hK
    go_simp
    (first | refine ⟨_, fun _ _ => rfl, hK _ ?_⟩ | refine hK _ ?_)
    clear hK K
    refine RegJ.nil ?_
    exact Hk.out _ _ _ _ _ _ _ _ _ _ _ _ _ _ (KeptW.bel x8k)
end Go.Proofs.YtkngadbeflepoaaGreat
