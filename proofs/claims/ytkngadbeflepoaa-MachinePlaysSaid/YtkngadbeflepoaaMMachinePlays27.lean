/- The document's table of sessions: its bytes (ref12.Bytes). Condition: codes are bytes, texts are short. -/
import Derived.Test.YtkngadbeflepoaaMMachinePlays24
import Derived.Test.YtkngadbeflepoaaMMachinePlays26
namespace Go.Proofs.Ytkngadbeflepoaa
open Go.RowKit

theorem str_app2 (l k : List UInt8) : (⟨l.toArray⟩ : ByteArray) ++ ⟨k.toArray⟩ = ⟨(l ++ k).toArray⟩ := str_app l ⟨k.toArray⟩
theorem bs_size (l : List UInt8) : (⟨l.toArray⟩ : ByteArray).size = l.length := by
  show l.toArray.size = l.length
  rw [List.size_toArray]
set_option maxRecDepth 100000 in
set_option maxHeartbeats 8000000 in
theorem rtab_any (A : Option Addr) (n cap : Nat) (z : List KeptV) (t : TabV) (hT : KeptTab t z) (ht : TabOk t) (w : World) (h : KeptsAt w A n z) :
    Calls Try.prog 72 #[.slice A n cap] w fun e w' => e = .returned (.string ⟨(tabB t 4).toArray⟩) ∧ Below w.heap.size w w' := by
  have H := Lib.hid h; clear h
  go_enter Try.func72, Try.ntmps72
  go_wp2_with fail
  go_loopw [3, 4] (fun s3 s4 wr => ∃ i : Nat, i ≤ 4 ∧ s4 = .int .i64 (i : Int) ∧ s3 = .string ⟨(tabB t i).toArray⟩ ∧ Below w.heap.size w wr) (fun _ s4 _ => 4 - (intOf s4).toNat)
  case atStart => exact ⟨0, by omega, rfl, rfl, Below.refl _ _⟩
  case round =>
    obtain ⟨i, hi, rfl, rfl, hb⟩ := hrel
    have Hb := Lib.hid hb; clear hb
    by_cases h4 : i < 4
    · have h4' : (i : Int) < 4 := by omega
      have hsucc := tsucc (n := i) (by omega)
      have hlen := tabB_len ht i
      have hS : (⟨(tabB t i).toArray⟩ : ByteArray).size ≤ 17000 := by rw [bs_size]; omega
      have hc8 : (BitVec.ofNat 8 i).toNat = i := by simp; omega
      have hlast := rlast_any A n cap z (BitVec.ofNat 8 i) wr (H.out.below Hb.out)
      have hx := hT (BitVec.ofNat 8 i) (by omega)
      rw [hc8] at hlast hx
      have hok := ht.at_ i
      have hstep : tabB t (i + 1) = tabB t i ++ lastB (t.at_ i) := rfl
      rw [← hx] at hok hstep
      obtain ⟨⟨xc, xs, xo, xt⟩, hxe⟩ : ∃ x, lastR (BitVec.ofNat 8 i) z = x := ⟨_, rfl⟩
      rw [hxe] at hlast hok hstep
      change LastOk ⟨xs, xo, xt⟩ at hok
      change tabB t (i + 1) = tabB t i ++ lastB ⟨xs, xo, xt⟩ at hstep
      clear hx hxe hlen hc8
      rw [kept_eta] at hlast
      have Hl := Lib.hid hlast; clear hlast
      have hcode : xo < 256 := hok.code
      have htext : xt.size ≤ 4096 := hok.text
      clear hok
      generalize hn : xs.toNat = m at Hl
      have hm : m < 4294967296 := by rw [← hn]; exact xs.isLt
      have hm' : (m : Int) < 4294967296 := by omega
      have Hn := Lib.hid hn; clear hn
      have hmod : (i : Int) % 256 = (i : Int) := by omega
      have Hst := Lib.hid hstep; clear hstep
      have Hnum := Lib.hid (fun y : World => rnum_any m (by omega) y)
      have hX : (⟨(numL m).toArray⟩ : ByteArray).size ≤ 9 := by rw [bs_size]; exact (numL_len m).1
      obtain ⟨S, hSe⟩ : ∃ S : ByteArray, (⟨(tabB t i).toArray⟩ : ByteArray) = S := ⟨_, rfl⟩
      obtain ⟨X, hXe⟩ : ∃ S : ByteArray, (⟨(numL m).toArray⟩ : ByteArray) = S := ⟨_, rfl⟩
      rw [hSe] at hS ⊢
      rw [hXe] at Hnum hX
      have HS := Lib.hid (And.intro hSe hXe); clear hSe hXe
      go_upto_region 6 with ((with_reducible refine Hl.out.mono ?_); rintro e w2 ⟨rfl, hb2⟩; have Hb2 := Lib.hid hb2; clear hb2)
      change Code.wp _ _ _ _ (w2.alloc (.cells #[.int .u8 (xc.toNat : Int), .int .u32 (m : Int), .int .u8 (xo : Int), .string xt] 131))
      have hk3 := heap_alloc_new w2 (.cells #[.int .u8 (xc.toNat : Int), .int .u32 (m : Int), .int .u8 (xo : Int), .string xt] 131)
      have hb3 := Hb2.out.alloc Hb2.out.size (.cells #[.int .u8 (xc.toNat : Int), .int .u32 (m : Int), .int .u8 (xo : Int), .string xt] 131)
      have hbw := Hb.out.trans (hb3.mono Hb.out.size)
      have hlt3 : w2.heap.size < (w2.alloc (.cells #[.int .u8 (xc.toNat : Int), .int .u32 (m : Int), .int .u8 (xo : Int), .string xt] 131)).heap.size := by simp
      generalize w2.alloc (.cells #[.int .u8 (xc.toNat : Int), .int .u32 (m : Int), .int .u8 (xo : Int), .string xt] 131) = w3 at *
      generalize w2.heap.size = g at *
      clear hb3 Hb2 Hb Hl
      have k1 : w3.cell? ⟨g, 1, none⟩ = some (.int .u32 (m : Int)) := cell_of_row _ _ _ _ _ _ hk3
      have Hk3 := Lib.hid hk3; clear hk3
      have Hbw := Lib.hid hbw; clear hbw
      have Hlt3 := Lib.hid hlt3; clear hlt3
      go_upto_region 7 with ((with_reducible refine (Hnum.out _).mono ?_); rintro e w4 ⟨rfl, hb4⟩; have Hb4 := Lib.hid hb4; clear hb4)
      clear k1 Hnum
      have hk4 := (Hb4.out.block g Hlt3.out).trans Hk3.out
      have k1 : w4.cell? ⟨g, 1, none⟩ = some (.int .u32 (m : Int)) := cell_of_row _ _ _ _ _ _ hk4
      have Hk4 := Lib.hid hk4; clear hk4
      have Hbw4 := Lib.hid (Hbw.out.trans (Hb4.out.mono Hbw.out.size))
      have Hg4 := Lib.hid (show g < w4.heap.size from Nat.lt_of_lt_of_le Hlt3.out Hb4.out.size)
      clear Hbw Hb4 Hk3 Hlt3
      have hSX : (S ++ X).size ≤ 17009 := by rw [ByteArray.size_append]; omega
      obtain ⟨Y, hY⟩ : ∃ Y, S ++ X = Y := ⟨_, rfl⟩
      rw [hY] at hSX ⊢
      have HY := Lib.hid hY; clear hY
      have Hm := Lib.hid hm; clear hm hm'
      by_cases hz : m = 0
      · have hz' : ¬ (0 : Int) < (m : Int) := by omega
        have Hz := Lib.hid hz; clear hz
        go_wp2_with fail
        go_roundw
        case rel =>
          refine ⟨i + 1, h4, rfl, ?_, Hbw4.out⟩
          rw [Hst.out, show lastB ⟨xs, xo, xt⟩ = numL m by unfold lastB; simp only [Hn.out]; rw [if_pos Hz.out, List.append_nil], ← str_app2, HS.out.1, HS.out.2, HY.out]
        case measure => simp [intOf]; omega
      · have hz' : (0 : Int) < (m : Int) := by omega
        have Hz := Lib.hid hz; clear hz
        go_upto_region 8 with fail
        clear k1
        refine (wpIn_wide (n := 1)).1 ?_
        refine RegJ.wpIn_region_plan (F := Fence.wide) (KeptW w4) (.step 0 0 (.step 1 0 (.step 2 0 (.step 3 0 (.step 7 0 (.step 8 0 (.step 9 0 (.fork 4 (.step 5 0 (.step 6 0 (.step 10 1 (.step 11 0 (.step 12 0 .nil))))) 10 (.step 4 1 (.step 5 0 (.step 6 0 (.step 11 0 (.step 12 0 .nil)))))))))))) ) (by kernel_rfl) (by kernel_rfl) (by kernel_rfl) (fun _ _ d _ _ h => by cases d <;> exact h) ⟨rfl, rfl, rfl, Nat.le_refl _, fun _ _ => rfl⟩ ?_
        dsimp only [RegJ.pickJ, List.getElem?_cons_zero, List.getElem?_cons_succ]
        change RegJ.Can _ _ _ _ _ _ _ _ w4.drew
        have hkd : KeptW w4 w4.drew := ⟨rfl, rfl, rfl, Nat.le_refl _, fun _ _ => rfl⟩
        generalize w4.drew = w5 at *
        iterate 3 (refine RegJ.reads ?_; intro K hK; go_simp; (first | (refine ⟨_, fun _ _ => rfl, hK _ ?_⟩) | (refine hK _ ?_)); clear hK K)
        refine RegJ.reads ?_
        intro K hK
        go_simp
        refine ⟨.int .u8 (xo : Int), fun y hy => ?_, hK _ ?_⟩
        · have f0 : y.cell? ⟨g, 2, none⟩ = some (.int .u8 (xo : Int)) := cell_of_row _ _ _ _ _ _ (((KeptW.bel hy).block g Hg4.out).trans Hk4.out)
          go_simp
        clear hK K
        iterate 2 (refine RegJ.reads ?_; intro K hK; go_simp; (first | (refine ⟨_, fun _ _ => rfl, hK _ ?_⟩) | (refine hK _ ?_)); clear hK K)
        refine RegJ.reads ?_
        intro K hK
        go_simp
        refine ⟨.string xt, fun y hy => ?_, hK _ ?_⟩
        · have f0 : y.cell? ⟨g, 3, none⟩ = some (.string xt) := cell_of_row _ _ _ _ _ _ (((KeptW.bel hy).block g Hg4.out).trans Hk4.out)
          go_simp
        clear hK K
        have hc8 : ((UInt8.ofNat xo).toNat : Int) = (xo : Int) := by simp; omega
        have Hone := Lib.hid (fun y : World => (show ReadB (y.alloc (.cells #[.int .u8 (xo : Int)] 5)) (.slice (some ⟨y.heap.size, 0, none⟩) 1 1) [UInt8.ofNat xo] by have h := ReadB.one y (UInt8.ofNat xo) 5; rwa [hc8] at h))
        clear hc8
        have Hstr := Lib.hid (fun y : World => rstr_any xt (by omega) y)
        have hT1 : (⟨(strL xt).toArray⟩ : ByteArray).size ≤ 4200 := by rw [bs_size]; have := strL_len xt; omega
        have hC1 : (⟨[UInt8.ofNat xo].toArray⟩ : ByteArray).size = 1 := rfl
        obtain ⟨T1, hTe⟩ : ∃ S : ByteArray, (⟨(strL xt).toArray⟩ : ByteArray) = S := ⟨_, rfl⟩
        obtain ⟨C1, hCe⟩ : ∃ S : ByteArray, (⟨[UInt8.ofNat xo].toArray⟩ : ByteArray) = S := ⟨_, rfl⟩
        rw [hTe] at Hstr hT1
        rw [hCe] at hC1
        have HTC := Lib.hid (And.intro hTe hCe); clear hTe hCe
        have hYC : (Y ++ C1).size ≤ 17010 := by rw [ByteArray.size_append]; omega
        have Hend := Lib.hid (show (⟨(tabB t (i + 1)).toArray⟩ : ByteArray) = Y ++ C1 ++ T1 by
          rw [Hst.out, show lastB ⟨xs, xo, xt⟩ = numL m ++ ([UInt8.ofNat xo] ++ strL xt) by unfold lastB; simp only [Hn.out]; rw [if_neg Hz.out]; rfl, ← List.append_assoc, ← List.append_assoc, ← str_app2, ← str_app2, ← str_app2, HS.out.1, HS.out.2, HY.out, HTC.out.1, HTC.out.2])
        refine RegJ.forks ?_ ?_
        · skip
          refine RegJ.turns (fun _ => trivial) ?_
          intro K K0 hK hK0
          go_simp
          have hbq := (Below.refl w5.heap.size w5).alloc (Nat.le_refl _) (.cells #[.int .u8 (xo : Int)] 5)
          have hkq : KeptW w4 (w5.alloc (.cells #[.int .u8 (xo : Int)] 5)) := KeptW.mono hkd hbq
          have hone := Hone.out w5
          refine hK (KeptW (w5.alloc (.cells #[.int .u8 (xo : Int)] 5))) _ (w5.alloc (.cells #[.int .u8 (xo : Int)] 5)) (fun y hy => KeptW.mono hkq (KeptW.bel hy)) (Below.refl _ _) ?_
          clear hK K hK0 K0 hbq
          generalize w5.alloc (.cells #[.int .u8 (xo : Int)] 5) = wq at *
          generalize w5.heap.size = gq at *
          refine RegJ.reads ?_
          intro K hK
          go_simp
          refine ⟨.string C1, fun y hy => ?_, hK _ ?_⟩
          · have hcv := (hone.below (KeptW.bel hy)).conv Try.underlying60 Try.underlying5 Try.underlying9
            rw [HTC.out.2] at hcv
            rw [hcv]
            rfl
          clear hK K
          refine RegJ.reads ?_
          intro K hK
          go_simp
          refine ⟨.string (Y ++ C1), fun _ _ => ?_, hK _ ?_⟩
          · first | rfl | (rw [if_neg (by omega)])
          clear hK K
          clear hone
          refine RegJ.turns (fun _ => trivial) ?_
          intro K K0 hK hK0
          go_simp
          refine ⟨trivial, ?_⟩
          refine (callsIn_wide.2 (Hstr.out wq)).mono ?_
          rintro e w7 ⟨rfl, hb7⟩
          have hk7 : KeptW w4 w7 := KeptW.mono hkq hb7
          refine hK _ _ _ (fun _ h => h) (show KeptW wq w7 from hb7) ?_
          clear hK K hK0 K0
          have Hbe := Lib.hid (Hbw4.out.trans ((KeptW.bel hk7).mono Hbw4.out.size))
          refine RegJ.reads ?_
          intro K hK
          go_simp
          refine ⟨.string (Y ++ C1 ++ T1), fun _ _ => ?_, hK _ ?_⟩
          · first | rfl | (rw [if_neg (by omega)]) | (rw [if_neg (by rw [ByteArray.size_append] at hYC; omega)])
          clear hK K
          refine RegJ.reads ?_
          intro K hK
          go_simp
          refine ⟨_, fun _ _ => rfl, hK _ ?_⟩
          clear hK K
          refine RegJ.nil ?_
          go_wp2_with fail
          go_roundw
          case rel => exact ⟨i + 1, h4, rfl, by rw [Hend.out], Hbe.out⟩
          case measure => simp [intOf]; omega
        · skip
          refine RegJ.turns (fun _ => trivial) ?_
          intro K K0 hK hK0
          go_simp
          refine ⟨trivial, ?_⟩
          refine (callsIn_wide.2 (Hstr.out w5)).mono ?_
          rintro e w7 ⟨rfl, hb7⟩
          have hk7 : KeptW w4 w7 := KeptW.mono hkd hb7
          refine hK _ _ _ (fun _ h => h) hk7 ?_
          clear hK K hK0 K0
          refine RegJ.turns (fun _ => trivial) ?_
          intro K K0 hK hK0
          go_simp
          have hbq := (Below.refl w7.heap.size w7).alloc (Nat.le_refl _) (.cells #[.int .u8 (xo : Int)] 5)
          have hkq : KeptW w4 (w7.alloc (.cells #[.int .u8 (xo : Int)] 5)) := KeptW.mono hk7 hbq
          have hone := Hone.out w7
          refine hK (KeptW (w7.alloc (.cells #[.int .u8 (xo : Int)] 5))) _ (w7.alloc (.cells #[.int .u8 (xo : Int)] 5)) (fun y hy => KeptW.mono hkq (KeptW.bel hy)) (Below.refl _ _) ?_
          clear hK K hK0 K0 hbq
          generalize w7.alloc (.cells #[.int .u8 (xo : Int)] 5) = wq at *
          generalize w7.heap.size = gq at *
          refine RegJ.reads ?_
          intro K hK
          go_simp
          refine ⟨.string C1, fun y hy => ?_, hK _ ?_⟩
          · have hcv := (hone.below (KeptW.bel hy)).conv Try.underlying60 Try.underlying5 Try.underlying9
            rw [HTC.out.2] at hcv
            rw [hcv]
            rfl
          clear hK K
          refine RegJ.reads ?_
          intro K hK
          go_simp
          refine ⟨.string (Y ++ C1), fun _ _ => ?_, hK _ ?_⟩
          · first | rfl | (rw [if_neg (by omega)])
          clear hK K
          clear hone
          have Hbe := Lib.hid (Hbw4.out.trans ((KeptW.bel hkq).mono Hbw4.out.size))
          refine RegJ.reads ?_
          intro K hK
          go_simp
          refine ⟨.string (Y ++ C1 ++ T1), fun _ _ => ?_, hK _ ?_⟩
          · first | rfl | (rw [if_neg (by omega)]) | (rw [if_neg (by rw [ByteArray.size_append] at hYC; omega)])
          clear hK K
          refine RegJ.reads ?_
          intro K hK
          go_simp
          refine ⟨_, fun _ _ => rfl, hK _ ?_⟩
          clear hK K
          refine RegJ.nil ?_
          go_wp2_with fail
          go_roundw
          case rel => exact ⟨i + 1, h4, rfl, by rw [Hend.out], Hbe.out⟩
          case measure => simp [intOf]; omega
    · have h4' : ¬ (i : Int) < 4 := by omega
      have hi4 : i = 4 := by omega
      subst hi4
      go_wp2_with fail
      go_ret
      exact ⟨rfl, Hb.out⟩
end Go.Proofs.Ytkngadbeflepoaa
