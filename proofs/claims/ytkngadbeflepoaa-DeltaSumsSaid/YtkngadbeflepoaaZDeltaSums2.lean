/- The law DeltaSums: a bit of a checksum turned. No condition. -/
import Derived.Laws.IdiomStrings
import Derived.Deep.DeepCutAuto
import Derived.Test.YtkngadbeflepoaaZDeltaSums0
import Derived.Test.YtkngadbeflepoaaZDeltaSums1
namespace Go.Proofs.Ytkngadbeflepoaa
open Go.RowKit
set_option maxRecDepth 100000 in
set_option maxHeartbeats 32000000 in
theorem deltaSums_any (a1 : Option Addr) (l1 cap1 : Nat) (z1 : List CmdV) (a2 : Option Addr) (l2 cap2 : Nat) (z2 : List CmdV) (at_ : Nat) (hat : at_ ≤ 65535) (w : World) (h1 : CmdsAt w a1 l1 z1) (h2 : CmdsAt w a2 l2 z2) :
    Calls Try.prog 11 #[.slice a1 l1 cap1, .slice a2 l2 cap2, .int .u16 (at_ : Int)] w fun e w' => e = .returned (.bool true) ∧ Below w.heap.size w w' := by
  have hgr1 := kgreat_any a1 l1 cap1 z1 w h1
  have hgr2 := kgreat_any a2 l2 cap2 z2 w h2
  cases hg1 : kgreatS z1 with
  | true =>
    rw [hg1] at hgr1
    clear h1 h2 hgr2
    have Hgr1 := Lib.hid hgr1; clear hgr1
    have Hgr2 := Hgr1
    go_enter Try.func11, Try.ntmps11
    go_wp2_with (first
      | ((with_reducible refine Hgr1.out.mono ?_); rintro e w' ⟨rfl, rfl⟩)
      | ((with_reducible refine Hgr2.out.mono ?_); rintro e w' ⟨rfl, rfl⟩)
      | ((with_reducible refine (dwakes_any _).mono ?_); rintro e wz ⟨rfl, hw⟩; have Hw := Lib.hid hw; clear hw))
    go_ret
    exact ⟨rfl, Hw.out⟩
  | false =>
  rw [hg1] at hgr1
  cases hg2 : kgreatS z2 with
  | true =>
    rw [hg2] at hgr2
    clear h1 h2
    have Hgr1 := Lib.hid hgr1; clear hgr1
    have Hgr2 := Lib.hid hgr2; clear hgr2
    go_enter Try.func11, Try.ntmps11
    go_wp2_with (first
      | ((with_reducible refine Hgr1.out.mono ?_); rintro e w' ⟨rfl, rfl⟩)
      | ((with_reducible refine Hgr2.out.mono ?_); rintro e w' ⟨rfl, rfl⟩)
      | ((with_reducible refine (dwakes_any _).mono ?_); rintro e wz ⟨rfl, hw⟩; have Hw := Lib.hid hw; clear hw))
    go_ret
    exact ⟨rfl, Hw.out⟩
  | false =>
  rw [hg2] at hgr2
  clear hg1 hg2
  have H1 := Lib.hid h1; clear h1
  have H2 := Lib.hid h2; clear h2
  have Hgr1 := Lib.hid hgr1; clear hgr1
  have Hgr2 := Lib.hid hgr2; clear hgr2
  obtain ⟨hall0, hmay⟩ := back_new
  have hnew := fun y : World => (show Calls Try.prog 31 #[.int .u8 127, .int .u8 7] y fun e w' => e = .returned (.tuple #[macV (newM 127 7) none, .int .i64 0]) ∧ Below y.heap.size y w' by
    have k := new_any 127 7 (by omega) (by omega) y
    rw [if_pos hmay] at k
    exact k)
  have hsh0 : (newM 127 7).sh = .nil := (newM_parts 127 7).2
  generalize newM 127 7 = M0 at *
  unfold macV at hnew
  rw [mac_eta] at hnew
  have Hnew := Lib.hid hnew; clear hnew hmay
  have Hall0 := Lib.hid (And.intro hall0 hsh0); clear hall0 hsh0
  go_enter Try.func11, Try.ntmps11
  go_upto_region 4 with (first
    | ((with_reducible refine Hgr1.out.mono ?_); rintro e w' ⟨rfl, rfl⟩)
    | ((with_reducible refine Hgr2.out.mono ?_); rintro e w' ⟨rfl, rfl⟩)
    | ((with_reducible refine (Hnew.out _).mono ?_); rintro e wn ⟨rfl, hbn⟩; have HBn := Lib.hid hbn; clear hbn))
  change Code.wp _ _ _ _ (wn.alloc (.cells (macCells M0 none).toArray 69))
  have HSm := Lib.hid (show MacAt (wn.alloc (.cells (macCells M0 none).toArray 69)) wn.heap.size M0 none from heap_alloc_new _ _)
  have HB0 := Lib.hid (HBn.out.alloc HBn.out.size (.cells (macCells M0 none).toArray 69))
  clear Hnew HBn Hgr1 Hgr2
  generalize wn.alloc (.cells (macCells M0 none).toArray 69) = w0 at *
  generalize wn.heap.size = gm at *
  have hfo := fold_any M0 .nil a1 l1 cap1 z1 w0 Hall0.out.1.fit.ok trivial Hall0.out.2.symm (H1.out.below HB0.out)
  rw [show (Tr.nil).ptr = none from rfl] at hfo
  unfold macV at hfo
  rw [mac_eta M0 none] at hfo
  have hAall := macsDo_all z1 Hall0.out.1
  generalize macsDo M0 z1 = A at *
  have Hfo := Lib.hid hfo; clear hfo
  have HA := Lib.hid hAall; clear hAall Hall0
  obtain ⟨⟨m0, m1, m14⟩, ⟨m2, m3, m4⟩, ⟨m5, m6, m7⟩, ⟨m8, m9, m10⟩, ⟨m11, m12, m13⟩⟩ := HSm.out.cells
  clear HSm
  go_upto_region 7 with ((with_reducible refine Hfo.out.mono ?_); rintro e w1 ⟨X1, rfl, hX, hXs, hb⟩; have HX := Lib.hid (And.intro hX (And.intro hXs hb)); clear hX hXs hb; rw [mac_eta A X1.ptr])
  change Code.wp _ _ _ _ (w1.alloc (.cells (macCells A X1.ptr).toArray 69))
  clear m0 m1 m2 m3 m4 m5 m6 m7 m8 m9 m10 m11 m12 m13 m14 Hfo
  have Hb2 := Lib.hid (show Below w.heap.size w (w1.alloc (.cells (macCells A X1.ptr).toArray 69)) from (HB0.out.trans (HX.out.2.2.mono HB0.out.size)).alloc (Nat.le_trans HB0.out.size HX.out.2.2.size) _)
  have HI2 := Lib.hid (show OneI (w1.alloc (.cells (macCells A X1.ptr).toArray 69)) w1.heap.size A X1 from ⟨heap_alloc_new _ _, HX.out.1.below ((Below.refl _ _).alloc (Nat.le_refl _) _), HX.out.2.1⟩)
  clear HX HB0
  generalize w1.alloc (.cells (macCells A X1.ptr).toArray 69) = w2 at *
  generalize w1.heap.size = ga at *
  refine sums_reg7 w2 ga A X1 a2 l2 cap2 z2 (fun _ _ d _ _ h => by cases d <;> exact h) HI2 HA (Lib.hid (H2.out.below Hb2.out)) _ _ _ _ _ _ _ _ _ _ _ _ _ _ _ _ _ _ _ _ _ _ _ _ _ _ _ _ _ _ _ _ _ _ _ _ _ _ _ _ _ _ _ _ _ _ _ _ _ _ _ _ _ _ _ _ _ _ _ _ _ _ _ _ _ _ _ _ _ _ _ _ _ _ _ _ _ _ _ _ _ _ _ _ _ _ (Lib.hid ?_)
  intro s33 s34 s35 s36 s37 s38 s39 s40 w3 hb3
  have HI3 := Lib.hid (HI2.out.below hb3)
  have Hb3 := Lib.hid (Hb2.out.trans (hb3.mono Hb2.out.size))
  clear HI2 Hb2 hb3 H1 H2
  have HB := Lib.hid (show MacAll (macsDo A z2) ∧ A.all = (macsDo A z2).all from ⟨macsDo_all z2 HA.out, (nodes_dos z2 A).symm⟩)
  generalize macsDo A z2 = B at *
  have hlen := diffM_len HA.out.fit HB.out.1.fit
  have hlong := diffM_long A B
  obtain ⟨p, hp⟩ : ∃ p, at_ % 128 = p := ⟨_, rfl⟩
  have hp1 : p < 128 := by omega
  have hflip := patch_flip HA.out HB.out.1 HB.out.2 hp1
  have hp2 : (at_ : Int) % 128 = (p : Int) := by omega
  have hsz : (⟨(diffM A B).toArray⟩ : ByteArray).size = (diffM A B).length := rfl
  have hdl : (⟨(diffM A B).toArray⟩ : ByteArray).data.toList = diffM A B := rfl
  generalize diffM A B = l at *
  obtain ⟨S, hS⟩ : ∃ S : ByteArray, (⟨l.toArray⟩ : ByteArray) = S := ⟨_, rfl⟩
  rw [hS] at hsz hdl ⊢
  have Hflip := Lib.hid hflip; clear hflip hS
  have hs19 : ¬ (S.size : Int) < 19 := by omega
  have Hlen := Lib.hid (And.intro hlen hlong); clear hlen hlong
  have Hsz := Lib.hid hsz; clear hsz
  have Hdl := Lib.hid hdl; clear hdl
  have Hp := Lib.hid hp; clear hp
  have hconv := fun (w : World) => run_bytes_of_string (P := Try.prog) w 9 60 5 S Try.underlying9 Try.underlying60 Try.underlying5
  go_upto_region 12 with fail
  clear hconv
  generalize grownCap w3 S.size 0 5 = cap
  obtain ⟨W1, hW1⟩ : ∃ W1, W1 = (w3.alloc (Obj.cells (bytesRow S cap) 5 ((bytesRow S cap).size, (bytesRow S cap).size + 1))).drew := ⟨_, rfl⟩
  have hrow : ByteRow W1 w3.heap.size l := by
    rw [hW1, ← Hdl.out]; exact (ByteRow.of_string w3 S cap _).drew
  have hbel : Below w3.heap.size w3 W1 := by rw [hW1]; exact ((Below.refl _ _).alloc (Nat.le_refl _) _).drew
  rw [← hW1]
  rw [hp2]
  have HR := Lib.hid hrow
  have Hbel := Lib.hid hbel
  clear hW1 hrow hbel hp2
  refine sums_reg12 W1 w3.heap.size S.size cap p l (fun _ _ d _ _ h => by cases d <;> exact h) HR Hsz.out.symm (by have := Hlen.out.2; have := Hsz.out; omega) (Lib.hid (by have := Hlen.out.1; have := Hsz.out; unfold maxLen at *; omega)) hp1 _ _ _ _ _ _ _ _ _ _ _ _ _ _ _ _ _ _ _ _ _ _ _ _ _ _ _ _ _ _ _ _ _ _ _ _ _ _ _ _ _ _ _ _ _ _ _ _ _ _ _ _ _ _ _ _ _ _ _ _ _ _ _ _ _ _ _ _ _ _ _ _ _ _ _ _ _ _ _ _ _ _ _ _ _ _ (Lib.hid ?_)
  intro s53 s54 s55 s56 s57 s58 s59 s60 s61 s62 s63 s64 s65 W2 h2
  have hb32 := Hbel.out.trans h2.2
  have HI5 := Lib.hid (HI3.out.below hb32)
  have Hb5 := Lib.hid (Hb3.out.trans (hb32.mono Hb3.out.size))
  have HR5 := Lib.hid h2.1
  have hlf : (Crc.flip l p).length = S.size := by rw [Crc.flip_length, Hsz.out]
  have hlm : (Crc.flip l p).length ≤ maxLen := by rw [Crc.flip_length]; exact Hlen.out.1
  clear HR Hbel h2 hb32 HI3 Hb3 Hlen
  go_upto_region 13 with fail
  refine sums_reg13 W2 ga w3.heap.size S.size cap A X1 (Crc.flip l p) (if p < 64 then 14 else 5) HI5 HR5 hlf (Lib.hid ⟨HA.out, hlm, Hflip.out⟩) _ _ _ _ _ _ _ _ _ _ _ _ _ _ _ _ _ _ _ _ _ _ _ _ _ _ _ _ _ _ _ _ _ _ _ _ _ _ _ _ _ _ _ _ _ _ _ _ _ _ _ _ _ _ _ _ _ _ _ _ _ _ _ _ _ _ _ _ _ _ _ _ _ _ _ _ _ _ _ _ _ _ _ _ _ _ (Lib.hid ?_)
  intro s66 s67 s68 s69 s70 s71 gy w5 hE
  have HM := Lib.hid hE.1
  have Hb6 := Lib.hid (Hb5.out.trans (hE.2.mono Hb5.out.size))
  clear HI5 HR5 Hb5 Hflip hE hlf hlm
  by_cases hp64 : p < 64
  · have hp64' : ¬ (64 : Int) ≤ (p : Int) := by omega
    rw [if_pos hp64]
    go_upto_region 17 with fail
    refine sums_reg17 w5 gy 14 HM _ _ _ _ _ _ _ _ _ _ _ _ _ _ _ _ _ _ _ _ _ _ _ _ _ _ _ _ _ _ _ _ _ _ _ _ _ _ _ _ _ _ _ _ _ _ _ _ _ _ _ _ _ _ _ _ _ _ _ _ _ _ _ _ _ _ _ _ _ _ _ _ _ _ _ _ _ _ _ _ _ _ _ _ _ (Lib.hid ?_)
    intro s75 s76 s77 s78 s79 s80 s81 s82 s83 s84 s85 s86 w6 hb6
    have Hb7 := Lib.hid (Hb6.out.trans (hb6.mono Hb6.out.size))
    clear HM hb6 Hb6
    go_wp2_with fail
    go_ret
    exact ⟨rfl, Hb7.out⟩
  · have hp64' : (64 : Int) ≤ (p : Int) := by omega
    rw [if_neg hp64]
    go_upto_region 17 with fail
    refine sums_reg17 w5 gy 5 HM _ _ _ _ _ _ _ _ _ _ _ _ _ _ _ _ _ _ _ _ _ _ _ _ _ _ _ _ _ _ _ _ _ _ _ _ _ _ _ _ _ _ _ _ _ _ _ _ _ _ _ _ _ _ _ _ _ _ _ _ _ _ _ _ _ _ _ _ _ _ _ _ _ _ _ _ _ _ _ _ _ _ _ _ _ (Lib.hid ?_)
    intro s75 s76 s77 s78 s79 s80 s81 s82 s83 s84 s85 s86 w6 hb6
    have Hb7 := Lib.hid (Hb6.out.trans (hb6.mono Hb6.out.size))
    clear HM hb6 Hb6
    go_wp2_with fail
    go_ret
    exact ⟨rfl, Hb7.out⟩
end Go.Proofs.Ytkngadbeflepoaa
namespace Go.Proofs.Ytkngadbeflepoaa
open Go.RowKit
theorem deltaSums_row (a1 : Option Addr) (l1 cap1 : Nat) (z1 : List CmdV) (a2 : Option Addr) (l2 cap2 : Nat) (z2 : List CmdV) (n : Int) {w : World} (h1 : CmdsAt w a1 l1 z1) (h2 : CmdsAt w a2 l2 z2) (f : (Lit.int .u16 n).wf = true) (_W : World) :
    Calls Try.prog 11 #[.slice a1 l1 cap1, .slice a2 l2 cap2, .int .u16 n] w fun e w' => e = .returned (.bool true) ∧ Below w.heap.size w w' := by
  have hn := bounds_u16 f
  obtain ⟨k, rfl⟩ := Int.eq_ofNat_of_zero_le hn.1
  exact deltaSums_any a1 l1 cap1 z1 a2 l2 cap2 z2 k (by omega) w h1 h2
end Go.Proofs.Ytkngadbeflepoaa
