/- The law MachineBack: a machine is told as bytes and read as itself. No condition. -/
import Derived.Test.YtkngadbeflepoaaMMachineBack42
import Derived.Test.YtkngadbeflepoaaMMachineBack44
namespace Go.Proofs.Ytkngadbeflepoaa
open Go.RowKit

theorem macB_len {M : MacV} (h : MacFit M) : (macB M).length ≤ maxLen := by
  have h1 := macHead_len (macFit_by h)
  have h2 := pairsB_len M.sh.kv (macFit_by h).kv
  have h3 := h.kv.num
  rw [cnt_kv] at h3
  unfold macB maxLen
  rw [List.length_append]
  omega
theorem mof_back {A : MacV} (h : MacAll A) (w : World) :
    Calls Try.prog 40 #[.string ⟨(macB A).toArray⟩] w fun e w' => ∃ X, e = .returned (.tuple #[macV A X.ptr, .int .i64 0]) ∧ TreeAt w' X ∧ X.sh = A.sh ∧ Below w.heap.size w w' := by
  have k := mof_any (macB A) (macB_len h.fit) w
  rw [ofM_app h.fit h.heap h.sets] at k
  exact k
theorem shp_nil {X : Tr} (h : X.sh = .nil) : X = .nil := by
  cases X with
  | nil => rfl
  | node => cases h
set_option maxRecDepth 100000 in
set_option maxHeartbeats 32000000 in
theorem machineBack_any (a1 : Option Addr) (l1 cap1 : Nat) (z1 : List CmdV) (a2 : Option Addr) (l2 cap2 : Nat) (z2 : List CmdV) (s : ByteArray) (w : World) (h1 : CmdsAt w a1 l1 z1) (h2 : CmdsAt w a2 l2 z2) :
    Calls Try.prog 7 #[.slice a1 l1 cap1, .slice a2 l2 cap2, .string s] w fun e w' => e = .returned (.bool true) ∧ Below w.heap.size w w' := by
  have hgr1 := kgreat_any a1 l1 cap1 z1 w h1
  have hgr2 := kgreat_any a2 l2 cap2 z2 w h2
  obtain ⟨g1, hg1⟩ : ∃ b, kgreatS z1 = b := ⟨_, rfl⟩
  obtain ⟨g2, hg2⟩ : ∃ b, kgreatS z2 = b := ⟨_, rfl⟩
  rw [hg1] at hgr1
  rw [hg2] at hgr2
  clear hg1 hg2
  have Hgr1 := Lib.hid hgr1; clear hgr1
  have Hgr2 := Lib.hid hgr2; clear hgr2
  cases g1 with
  | true =>
    clear h1 h2
    go_enter Try.func7, Try.ntmps7
    go_wp2_with (first
    | ((with_reducible refine Hgr1.out.mono ?_); rintro e w' ⟨rfl, rfl⟩)
    | ((with_reducible refine Hgr2.out.mono ?_); rintro e w' ⟨rfl, rfl⟩)
    | ((with_reducible refine (mwakes_any _).mono ?_); rintro e wz ⟨rfl, hw⟩; have Hw := Lib.hid hw; clear hw))
    go_ret
    exact ⟨rfl, Hw.out⟩
  | false =>
  cases g2 with
  | true =>
    clear h1 h2
    go_enter Try.func7, Try.ntmps7
    go_wp2_with (first
    | ((with_reducible refine Hgr1.out.mono ?_); rintro e w' ⟨rfl, rfl⟩)
    | ((with_reducible refine Hgr2.out.mono ?_); rintro e w' ⟨rfl, rfl⟩)
    | ((with_reducible refine (mwakes_any _).mono ?_); rintro e wz ⟨rfl, hw⟩; have Hw := Lib.hid hw; clear hw))
    go_ret
    exact ⟨rfl, Hw.out⟩
  | false =>
  by_cases hs3 : 3000 < s.size
  · have hs' : (3000 : Int) < (s.size : Int) := by omega
    clear h1 h2 hs3
    go_enter Try.func7, Try.ntmps7
    go_wp2_with (first
    | ((with_reducible refine Hgr1.out.mono ?_); rintro e w' ⟨rfl, rfl⟩)
    | ((with_reducible refine Hgr2.out.mono ?_); rintro e w' ⟨rfl, rfl⟩)
    | ((with_reducible refine (mwakes_any _).mono ?_); rintro e wz ⟨rfl, hw⟩; have Hw := Lib.hid hw; clear hw))
    go_ret
    exact ⟨rfl, Hw.out⟩
  have hs' : ¬ (3000 : Int) < (s.size : Int) := by omega
  have Hs3 := Lib.hid hs3; clear hs3
  have H1 := Lib.hid h1; clear h1
  have H2 := Lib.hid h2; clear h2
  obtain ⟨hall0, hmay⟩ := back_new
  have hnew := fun y : World => (show Calls Try.prog 31 #[.int .u8 127, .int .u8 7] y fun e w' => e = .returned (.tuple #[macV (newM 127 7) none, .int .i64 0]) ∧ Below y.heap.size y w' by
    have k := new_any 127 7 (by omega) (by omega) y
    rw [if_pos hmay] at k
    exact k)
  have hsh0 : (newM 127 7).sh = .nil := (newM_parts 127 7).2
  generalize newM 127 7 = M0 at *
  unfold macV at hnew
  rw [mac_eta] at hnew
  have Hnew := Lib.hid hnew; clear hnew hmay
  have H0 := Lib.hid (And.intro hall0.fit.ok hsh0)
  have HA := Lib.hid (And.intro (macsDo_all z1 hall0) (macsDo_all z2 hall0)); clear hall0 hsh0
  go_enter Try.func7, Try.ntmps7
  go_upto_region 4 with (first
    | ((with_reducible refine Hgr1.out.mono ?_); rintro e w' ⟨rfl, rfl⟩)
    | ((with_reducible refine Hgr2.out.mono ?_); rintro e w' ⟨rfl, rfl⟩)
    | ((with_reducible refine (Hnew.out _).mono ?_); rintro e wn ⟨rfl, hbn⟩; have HBn := Lib.hid hbn; clear hbn))
  change Code.wp _ _ _ _ (wn.alloc (.cells (macCells M0 none).toArray 69))
  have HSm := Lib.hid (show MacAt (wn.alloc (.cells (macCells M0 none).toArray 69)) wn.heap.size M0 none from heap_alloc_new _ _)
  have HB0 := Lib.hid (HBn.out.alloc HBn.out.size (.cells (macCells M0 none).toArray 69))
  clear Hnew HBn Hgr1 Hgr2
  generalize wn.alloc (.cells (macCells M0 none).toArray 69) = w0 at *
  generalize wn.heap.size = gm at *
  go_upto_region 6 with fail
  refine back_reg6 w0 gm M0 a1 l1 cap1 z1 a2 l2 cap2 z2 (fun _ _ d _ _ h => by cases d <;> exact h) (fun _ _ d _ _ h => by cases d <;> exact h) HSm H0 (Lib.hid (H1.out.below HB0.out)) (Lib.hid (H2.out.below HB0.out)) _ _ _ _ _ _ _ _ _ _ _ _ _ _ _ _ _ _ _ _ _ _ _ _ _ _ _ _ _ _ _ _ _ _ _ _ _ _ _ _ _ _ _ _ _ _ _ _ _ _ _ _ _ _ _ _ _ _ _ _ _ _ _ _ _ _ _ _ _ _ _ _ _ _ _ _ _ _ _ _ _ _ _ _ _ _ _ _ _ (Lib.hid ?_)
  intro s33 s34 s35 s36 s37 s38 gs gt X Y w2 hB
  have HB := Lib.hid hB; clear hB
  have Hbel := Lib.hid (HB0.out.trans (HB.out.bel.mono HB0.out.size))
  clear HSm HB0 H0 H1 H2
  generalize macsDo M0 z1 = A at *
  generalize macsDo M0 z2 = B at *
  obtain ⟨SA, hSA⟩ : ∃ S : ByteArray, (⟨(macB A).toArray⟩ : ByteArray) = S := ⟨_, rfl⟩
  have hby := mbytes_any A X (macFit_by HA.out.1.fit) w2 HB.out.ta HB.out.sa
  have hof := fun y : World => mof_back HA.out.1 y
  rw [hSA] at hby hof
  obtain ⟨PX, hPX⟩ : ∃ P, X.ptr = P := ⟨_, rfl⟩
  unfold macV at hby
  rw [hPX, mac_eta A PX] at hby
  have Hby := Lib.hid hby; clear hby
  have Hof := Lib.hid hof; clear hof
  obtain ⟨⟨m0, m1, m14⟩, ⟨m2, m3, m4⟩, ⟨m5, m6, m7⟩, ⟨m8, m9, m10⟩, ⟨m11, m12, m13⟩⟩ := HB.out.a.cells
  rw [hPX] at m14
  clear hPX hSA
  go_upto_region 8 with (first
    | ((with_reducible refine Hby.out.mono ?_); rintro e w3 ⟨rfl, hb3⟩; have Hb3 := Lib.hid hb3; clear hb3)
    | ((with_reducible refine (Hof.out _).mono ?_); rintro e w4 ⟨Z, rfl, hZ, hZs, hb4⟩; have HZ := Lib.hid (And.intro hZ (And.intro hZs hb4)); clear hZ hZs hb4; unfold macV; rw [mac_eta A Z.ptr]))
  change Code.wp _ _ _ _ (w4.alloc (.cells (macCells A Z.ptr).toArray 69))
  clear m0 m1 m2 m3 m4 m5 m6 m7 m8 m9 m10 m11 m12 m13 m14 Hby Hof
  have hb5 := HZ.out.2.2.alloc HZ.out.2.2.size (.cells (macCells A Z.ptr).toArray 69)
  have hb25 := Hb3.out.trans (hb5.mono Hb3.out.size)
  have HX5 := Lib.hid (show MacAt (w4.alloc (.cells (macCells A Z.ptr).toArray 69)) w4.heap.size A Z.ptr ∧ TreeAt (w4.alloc (.cells (macCells A Z.ptr).toArray 69)) Z ∧ Z.sh = A.sh from
    ⟨heap_alloc_new _ _, HZ.out.1.below ((Below.refl _ _).alloc (Nat.le_refl _) _), HZ.out.2.1⟩)
  have HB5 := Lib.hid (HB.out.below hb25)
  have Hbel5 := Lib.hid (Hbel.out.trans (hb25.mono Hbel.out.size))
  clear hb5 hb25 HZ HB Hbel Hb3
  generalize w4.alloc (.cells (macCells A Z.ptr).toArray 69) = w5 at *
  generalize w4.heap.size = gx at *
  refine back_reg8 w0 w5 gs gt gx A B X Y Z (fun _ _ d _ _ h => by cases d <;> exact h) HB5 HX5 HA _ _ _ _ _ _ _ _ _ _ _ _ _ _ _ _ _ _ _ _ _ _ _ _ _ _ _ _ _ _ _ _ _ _ _ _ _ _ _ _ _ _ _ _ _ _ _ _ _ _ _ _ _ _ _ _ _ _ _ _ _ _ _ _ _ _ _ _ _ _ _ _ _ _ _ _ _ _ _ _ _ _ _ _ _ _ _ _ (Lib.hid ?_)
  intro s45 s46 s47 s48 s49 s50 s51 s52 s53 s54 s55 s56 s57 s58 s59 s60 s61 s62 w6 hb6
  have Hbel6 := Lib.hid (Hbel5.out.trans (hb6.mono Hbel5.out.size))
  clear HB5 HX5 Hbel5 hb6
  have hs3l : s.data.toList.length ≤ maxLen := by rw [str_size]; unfold maxLen; have := Hs3.out; omega
  have hof := fun y : World => mof_any s.data.toList hs3l y
  rw [str_mk] at hof
  obtain ⟨⟨M3, c⟩, hM3⟩ : ∃ x, ofM s.data.toList = x := ⟨_, rfl⟩
  rw [hM3] at hof
  have Hof := Lib.hid hof; clear hof hs3l
  have HM3 := Lib.hid hM3; clear hM3
  go_upto_region 11 with ((with_reducible refine (Hof.out _).mono ?_); rintro e w7 ⟨Z3, rfl, hZ, hZs, hb7⟩; have HZ := Lib.hid (And.intro hZ (And.intro hZs hb7)); clear hZ hZs hb7; unfold macV; dsimp only; rw [mac_eta M3 Z3.ptr])
  change Code.wp _ _ _ _ (w7.alloc (.cells (macCells M3 Z3.ptr).toArray 69))
  have hb8 := HZ.out.2.2.alloc HZ.out.2.2.size (.cells (macCells M3 Z3.ptr).toArray 69)
  have HX8 := Lib.hid (show MacAt (w7.alloc (.cells (macCells M3 Z3.ptr).toArray 69)) w7.heap.size M3 Z3.ptr ∧ TreeAt (w7.alloc (.cells (macCells M3 Z3.ptr).toArray 69)) Z3 ∧ Z3.sh = M3.sh from
    ⟨heap_alloc_new _ _, HZ.out.1.below ((Below.refl _ _).alloc (Nat.le_refl _) _), HZ.out.2.1⟩)
  have Hbel8 := Lib.hid (Hbel6.out.trans (hb8.mono Hbel6.out.size))
  clear hb8 HZ Hbel6 Hof
  generalize w7.alloc (.cells (macCells M3 Z3.ptr).toArray 69) = w8 at *
  generalize w7.heap.size = gy at *
  by_cases hc : c = 0
  · subst hc
    obtain ⟨k1, k2, -, -⟩ := ofM_inv HM3.out
    have hby := mbytes_any M3 Z3 (macFit_by k2) w8 HX8.out.2.1 HX8.out.2.2
    rw [k1, str_mk] at hby
    obtain ⟨P3, hP3⟩ : ∃ P, Z3.ptr = P := ⟨_, rfl⟩
    rw [hP3] at hby
    unfold macV at hby
    rw [mac_eta M3 P3] at hby
    have Hby := Lib.hid hby; clear hby k1 k2
    obtain ⟨⟨m0, m1, m14⟩, ⟨m2, m3, m4⟩, ⟨m5, m6, m7⟩, ⟨m8, m9, m10⟩, ⟨m11, m12, m13⟩⟩ := HX8.out.1.cells
    rw [hP3] at m14
    clear hP3 HX8
    go_wp2_with (first
      | ((with_reducible refine Hby.out.mono ?_); rintro e w9 ⟨rfl, hb9⟩; have Hb9 := Lib.hid hb9; clear hb9)
      | ((with_reducible refine (mwakes_any _).mono ?_); rintro e wz ⟨rfl, hw⟩; have Hw := Lib.hid hw; clear hw))
    go_ret
    have hx := Hbel8.out.trans (Hb9.out.mono Hbel8.out.size)
    exact ⟨rfl, hx.trans (Hw.out.mono hx.size)⟩
  · have hc' : ((c : Int) != 0) = true := by rw [bne_iff_ne]; omega
    have herr := ofM_err (s := s.data.toList) (by rw [HM3.out]; exact hc)
    rw [HM3.out] at herr
    obtain ⟨hm, hcc⟩ := herr
    simp only at hm hcc
    subst hm
    have hz3 : Z3 = .nil := shp_nil HX8.out.2.2
    subst hz3
    have hsm := same2_any macNone macNone .nil .nil w8 trivial trivial rfl rfl List.Pairwise.nil List.Pairwise.nil (Nat.zero_le _) (Nat.zero_le _)
    rw [(macSame_iff heap_nil heap_nil).2 rfl] at hsm
    unfold macV at hsm
    rw [mac_eta] at hsm
    have Hsm := Lib.hid hsm; clear hsm HM3 hc
    obtain ⟨⟨m0, m1, m14⟩, ⟨m2, m3, m4⟩, ⟨m5, m6, m7⟩, ⟨m8, m9, m10⟩, ⟨m11, m12, m13⟩⟩ := HX8.out.1.cells
    clear HX8
    rcases hcc with rfl | rfl
    all_goals (
      go_wp2_with (first
        | ((with_reducible refine (mwakes_any _).mono ?_); rintro e wz ⟨rfl, hw⟩; have Hw := Lib.hid hw; clear hw)
        | (refine Hsm.out.mono ?_; rintro e w9 ⟨rfl, hb9⟩; have Hb9 := Lib.hid hb9; clear hb9))
      go_ret
      have hx := Hbel8.out.trans (Hb9.out.mono Hbel8.out.size)
      exact ⟨rfl, hx.trans (Hw.out.mono hx.size)⟩)
end Go.Proofs.Ytkngadbeflepoaa
/- MachineBack, as its row asks for it. No condition. -/
namespace Go.Proofs.Ytkngadbeflepoaa
open Go.RowKit

theorem machineBack_law (a1 : Option Addr) (l1 cap1 : Nat) (z1 : List CmdV) (a2 : Option Addr) (l2 cap2 : Nat) (z2 : List CmdV) (s : ByteArray) {w : World} (h1 : CmdsAt w a1 l1 z1) (h2 : CmdsAt w a2 l2 z2) (_ : s.size ≤ maxLen) (_W : World) :
    Calls Try.prog 7 #[.slice a1 l1 cap1, .slice a2 l2 cap2, .string s] w fun e w' => e = .returned (.bool true) ∧ Below w.heap.size w w' := machineBack_any a1 l1 cap1 z1 a2 l2 cap2 z2 s w h1 h2
end Go.Proofs.Ytkngadbeflepoaa
