/- Base: BaseWhole's law. Condition: the library's variables hold what the program's text lays. -/
import Derived.Test.YtogfladmgbldcaaGreatDoorZBaseWhole12
import Derived.WalkKit
import Derived.Deep.Slices
import Derived.Deep.Fields
import Derived.ChangeSame
import Derived.Below
import Derived.ChangeArms
namespace Go.Proofs.YtogfladmgbldcaaGreatDoor
open Go.RowKit Go.Shelf
set_option maxRecDepth 100000 in
set_option maxHeartbeats 16000000 in
theorem baseWhole_any (slot : Nat) (x : ByteArray) (at_ : Nat) (hs : slot < 18446744073709551616) (ha : at_ < 4294967296) {w : World} (hv0 : PV w) : Calls Tryz.prog 6 #[.agg #[.int .u64 (slot : Int), .string x], .int .u32 (at_ : Int)] w fun e w' => e = .returned (.bool true) ∧ Below w.heap.size w w' := by
  have hxl := str_len x
  have hbx := (Below.refl w.heap.size w).alloc (Nat.le_refl _) (.cells #[.int .u64 (slot : Int), .string x] 46)
  have hro : (w.alloc (.cells #[.int .u64 (slot : Int), .string x] 46)).heap[w.heap.size]? = some (.cells #[.int .u64 (slot : Int), .string x] 46 (0, 0)) := heap_alloc_new _ _
  have hv1 := hv0.below hbx
  have k0 := cell_of_row _ _ 0 _ _ _ hro
  have k1 := cell_of_row _ _ 1 _ _ _ hro
  rw [show (#[Value.int .u64 (slot : Int), .string x])[0]? = some (.int .u64 (slot : Int)) from rfl] at k0
  rw [show (#[Value.int .u64 (slot : Int), .string x])[1]? = some (.string x) from rfl] at k1
  have hbs : w.heap.size < (w.alloc (.cells #[.int .u64 (slot : Int), .string x] 46)).heap.size := (Array.getElem?_eq_some_iff.1 hro).1
  have Hwk := Lib.hid wakes06_any
  have HBX := Lib.hid (And.intro hbx (And.intro hv1 hbs))
  clear hbx hv1 hbs hro hv0
  by_cases hg : slot = 0 ∨ 300 < x.size
  · clear hxl hs ha
    have go2 : ∀ (b : Bool), ((slot : Int) == 0) = b → (b = false → (300 : Int) < (x.size : Int)) → Calls Tryz.prog 6 #[.agg #[.int .u64 (slot : Int), .string x], .int .u32 (at_ : Int)] w fun e w' => e = .returned (.bool true) ∧ Below w.heap.size w w' := by
      intro b hb1 hb2
      clear hg
      cases b
      · have hb2 := hb2 rfl
        go_enter Tryz.func6, Tryz.ntmps6
        go_upto_region 1 with fail
        change Code.wp _ _ _ _ (w.alloc (.cells #[.int .u64 (slot : Int), .string x] 46))
        generalize w.alloc (.cells #[.int .u64 (slot : Int), .string x] 46) = w1 at *
        go_wp2_with (go_at_call 15; (with_reducible refine (Hwk.out _ HBX.out.2.1).mono ?_); rintro e w5 ⟨rfl, hb⟩; have HB5 := Lib.hid (HBX.out.1.trans (hb.mono HBX.out.1.size)); clear hb)
        go_ret
        exact ⟨rfl, HB5.out⟩
      · go_enter Tryz.func6, Tryz.ntmps6
        go_upto_region 1 with fail
        change Code.wp _ _ _ _ (w.alloc (.cells #[.int .u64 (slot : Int), .string x] 46))
        generalize w.alloc (.cells #[.int .u64 (slot : Int), .string x] 46) = w1 at *
        go_wp2_with (go_at_call 15; (with_reducible refine (Hwk.out _ HBX.out.2.1).mono ?_); rintro e w5 ⟨rfl, hb⟩; have HB5 := Lib.hid (HBX.out.1.trans (hb.mono HBX.out.1.size)); clear hb)
        go_ret
        exact ⟨rfl, HB5.out⟩
    rcases hg with hg | hg
    · exact go2 true (by rw [hg]; rfl) (fun h => by cases h)
    · by_cases h0 : slot = 0
      · exact go2 true (by rw [h0]; rfl) (fun h => by cases h)
      · exact go2 false (by rw [beq_eq_false_iff_ne]; omega) (fun _ => by omega)
  · have h1s : 1 ≤ slot := by omega
    have hx3 : x.data.toList.length ≤ 300 := by omega
    have z0 : ((slot : Int) == 0) = false := by rw [beq_eq_false_iff_ne]; omega
    have z1 : ¬ ((300 : Int) < (x.size : Int)) := by omega
    clear hg
    obtain ⟨D1, e1, s1, n1⟩ : ∃ D1, saveB dsk0 (0, []) slot x.data.toList = (D1, (slot, x.data.toList), 0) ∧ Sto D1 (slot, x.data.toList) ∧ D1.fuse = none := by
      rcases save_sto sto0 (slot := slot) (t := x.data.toList) (by show 0 < slot; omega) hs hx3 with ⟨D1, a, b, c⟩ | ⟨a, _⟩
      · exact ⟨D1, a, b, c rfl⟩
      · exact (a rfl).elim
    have o0 := open_sto sto0
    obtain ⟨X, hX⟩ : ∃ X, X = frL (insB slot x.data.toList) := ⟨_, rfl⟩
    have hXl := frI_len (slot := slot) hx3
    rw [← hX] at hXl
    obtain ⟨hn, hhn⟩ : ∃ hn, hn = headN X.length := ⟨_, rfl⟩
    have hhn3 : hn = if 256 < X.length then (if X.length ≤ 265 then 2 else 3) else 1 := hhn
    have hh : 1 ≤ hn ∧ hn ≤ 3 := by
      rw [hhn3]
      by_cases a : 256 < X.length
      · rw [if_pos a]
        by_cases b : X.length ≤ 265
        · rw [if_pos b]; omega
        · rw [if_neg b]; omega
      · rw [if_neg a]; omega
    obtain ⟨k, hk⟩ : ∃ k, k = 8 * hn + at_ % (8 * (X.length - hn)) := ⟨_, rfl⟩
    have hkl : 8 * hn ≤ k ∧ k < 8 * X.length := by
      have := Nat.mod_lt at_ (show 0 < 8 * (X.length - hn) by omega)
      omega
    obtain ⟨t1, t2⟩ := turn_good (slot := slot) (t := x.data.toList) h1s hs hx3 (k := k) (by rw [← hX, ← hhn]; exact hkl.1) (by rw [← hX]; exact hkl.2)
    rw [← hX] at t1
    have f1 : D1.fs = stF (slot, x.data.toList) := s1.fs
    have f1b : D1.fs = [⟨bname slot, X, X.length⟩] := by rw [f1]; unfold stF; rw [if_neg (by show slot ≠ 0; omega)]; unfold goodF; rw [hX]
    have tf : totF D1.fs = X.length := by rw [f1b]; show X.length + 0 = _; omega
    have cr := sto_crash s1 0
    obtain ⟨D2, hD2⟩ : ∃ D2 : DskV, D2 = { D1 with fuse := none, dead := true } := ⟨_, rfl⟩
    rw [← hD2] at cr
    have d2 : D2.dead = true := by rw [hD2]
    have f2 : D2.fs = D1.fs := by rw [hD2]
    obtain ⟨D3, hD3⟩ : ∃ D3 : DskV, D3 = { ({ D2 with fs := turnL k D2.fs } : DskV) with dead := false } := ⟨_, rfl⟩
    have f3 : D3.fs = [⟨bname slot, Crc.flip X k, X.length⟩] := by rw [hD3]; show turnL k D2.fs = _; rw [f2, f1]; exact t1
    have sp3 : spoilt (baseL D3.fs) := by rw [hD3]; show spoilt (baseL (turnL k D2.fs)); rw [f2, f1]; exact t2
    have d3 : D3.dead = false := by rw [hD3]
    obtain ⟨N, hN⟩ : ∃ N, N = (w.alloc (.cells #[.int .u64 (slot : Int), .string x] 46)).heap.size := ⟨_, rfl⟩
    have HW := Lib.hid (show PVB N (w.alloc (.cells #[.int .u64 (slot : Int), .string x] 46)) ∧ N ≤ (w.alloc (.cells #[.int .u64 (slot : Int), .string x] 46)).heap.size from ⟨by rw [hN]; exact PVB.of HBX.out.2.1, by omega⟩)
    have HBN := Lib.hid (show w.heap.size < N from by rw [hN]; exact HBX.out.2.2)
    have HK := Lib.hid (show ∀ y, Below N (w.alloc (.cells #[.int .u64 (slot : Int), .string x] 46)) y → y.cell? ⟨w.heap.size, 0, none⟩ = some (.int .u64 (slot : Int)) ∧ y.cell? ⟨w.heap.size, 1, none⟩ = some (.string x) from fun y hy => ⟨(World.cell?_of_block (hy.block _ HBN.out)).trans k0, (World.cell?_of_block (hy.block _ HBN.out)).trans k1⟩)
    clear hN
    have Hnew := Lib.hid (fun (y : World) (hy : N ≤ y.heap.size) => new_dk N y hy)
    have Hop := Lib.hid (fun (p bb : Nat) (y : World) (hy : N ≤ y.heap.size) (hp : PV y) (h : Dk N p bb dsk0 y) => by have h2 := open_dk hy (by decide) (fun f hf => (by cases hf)) hp h rfl o0.1; rw [o0.2.1, o0.2.2] at h2; exact h2)
    have Hs1 := Lib.hid (fun (S p bb : Nat) (y : World) (hy : N ≤ y.heap.size) (hp : PVB N y) (h : St N S p bb dsk0 (0, []) y) => by have h2 := save_st hy slot x hs (by decide) (by omega) hp h; rw [e1] at h2; exact (show Calls Tryz.prog 14 #[.pointer (some ⟨S, 0, none⟩), .int .u64 (slot : Int), .string x] y (fun e w' => e = .returned (.int .i64 0) ∧ St N S p bb D1 (slot, x.data.toList) w' ∧ Below N y w') from h2))
    have Hfs := Lib.hid (fun (S p bb : Nat) (y : World) (h : St N S p bb D1 (slot, x.data.toList) y) => files_dk (by rw [f1b]; show 1 ≤ _; decide) h.dk)
    have Hcr := Lib.hid (fun (S p bb : Nat) (y : World) (hy : N ≤ y.heap.size) (h : St N S p bb D1 (slot, x.data.toList) y) => (show Calls Tryz.prog 23 #[.pointer (some ⟨p, 0, none⟩), .int .i64 0] y (fun e w' => e = .returned (.int .i64 0) ∧ Dk N p bb D2 w' ∧ Below N y w') from by
      have h2 := act_dk (R := crashD D1 0) (f := 23) (args := #[.pointer (some ⟨p, 0, none⟩), .int .i64 0]) hy h.dk (fun n C L hd hl => crash_any 0 (by decide) (by rw [f1b]; show 1 ≤ _; decide) y hd hl)
      rw [cr] at h2
      exact h2))
    have Htu := Lib.hid (fun (p bb : Nat) (y : World) (hy : N ≤ y.heap.size) (h : Dk N p bb D2 y) => turn_dk hy k (by rw [f2, tf]; exact hkl.2) (by rw [f2, f1b]; show 1 ≤ _; decide) h d2)
    have Hst := Lib.hid (fun (p bb : Nat) (y : World) (hy : N ≤ y.heap.size) (h : Dk N p bb { D2 with fs := turnL k D2.fs } y) => (show Calls Tryz.prog 24 #[.pointer (some ⟨p, 0, none⟩)] y (fun e w' => e = .returned (.int .i64 0) ∧ Dk N p bb D3 w' ∧ Below N y w') from by rw [hD3]; exact start_dk hy h))
    have Hf3 := Lib.hid (fun (p bb : Nat) (y : World) (h : Dk N p bb D3 y) => files_dk (by rw [f3]; show 1 ≤ _; decide) h)
    have Hha := Lib.hid (fun (p bb : Nat) (y : World) (hp : PV y) (h : Dk N p bb D3 y) => halt_dk (by rw [f3]; show 1 ≤ _; decide) (fun f hf => by rw [f3] at hf; rw [List.mem_singleton.1 hf]; show (bname slot).length ≤ _; rw [bname_len]; decide) hp h d3 sp3)
    have HF1 := Lib.hid f1b
    have HF3 := Lib.hid f3
    have HN := Lib.hid (And.intro hhn3 (And.intro hh (And.intro hk (And.intro hkl (And.intro hXl ha)))))
    clear e1 s1 n1 o0 hX hXl hhn hhn3 hh hk hkl t1 t2 f1 f1b tf cr hD2 d2 f2 hD3 f3 sp3 d3 k0 k1 hx3 hxl hs h1s ha
    go_enter Tryz.func6, Tryz.ntmps6
    go_upto_region 1 with fail
    change Code.wp _ _ _ _ (w.alloc (.cells #[.int .u64 (slot : Int), .string x] 46))
    have HB0 := Lib.hid HBX.out.1
    generalize w.alloc (.cells #[.int .u64 (slot : Int), .string x] 46) = w1 at *
    obtain ⟨k0, k1⟩ := HK.out w1 (Below.refl _ _)
    go_upto_region 5 with (first
      | (go_at_call 16; (with_reducible refine (Hnew.out _ HW.out.2).mono ?_); rintro e w2 ⟨p, bb, rfl, hd, hb⟩; have H1 := Lib.hid (And.intro hd (And.intro (HW.out.1.on hb) (Nat.le_trans HW.out.2 hb.size))); have HB1 := Lib.hid hb; clear hd hb)
      | (go_at_call 12; (with_reducible refine (Hop.out p bb _ H1.out.2.2 H1.out.2.1.here H1.out.1).mono ?_); rintro e w3 ⟨S, rfl, hd, hb⟩; have H2 := Lib.hid (And.intro hd (And.intro (H1.out.2.1.on hb) (Nat.le_trans H1.out.2.2 hb.size))); have HB2 := Lib.hid (HB1.out.trans hb); clear hd hb))
    clear k0 k1
    obtain ⟨k0, k1⟩ := HK.out w3 HB2.out
    go_upto_region 8 with (first
      | (go_at_call 14; (with_reducible refine (Hs1.out S p bb _ H2.out.2.2 H2.out.2.1 H2.out.1).mono ?_); rintro e w4 ⟨rfl, hd, hb⟩; have H3 := Lib.hid (And.intro hd (And.intro (H2.out.2.1.on hb) (Nat.le_trans H2.out.2.2 hb.size))); have HB3 := Lib.hid (HB2.out.trans hb); clear hd hb)
      | (go_at_call 19; (with_reducible refine (Hfs.out S p bb _ H3.out.1).mono ?_); rintro e w5 ⟨v, rfl, ho, hb⟩; obtain ⟨gf, cf, rfl, hgf, hcf⟩ := one_file HF1.out ho; have HC5 := Lib.hid hcf; have H5 := Lib.hid (And.intro (H3.out.1.below hb) (And.intro (H3.out.2.1.on (hb.mono H3.out.2.2)) (Nat.le_trans H3.out.2.2 hb.size))); have HB5 := Lib.hid (HB3.out.trans (hb.mono H3.out.2.2)); clear ho hb hgf hcf))
    clear k0 k1
    obtain ⟨z, hz⟩ : ∃ z : ByteArray, z = ⟨X.toArray⟩ := ⟨_, rfl⟩
    have hzs : z.size = X.length := by rw [hz]; simp [ByteArray.size]
    have q1 := (HC5.out w5 (Below.refl _ _)).2.1
    rw [← hz] at q1
    have z2 : ¬ ((z.size : Int) < 11) := by have := HN.out.2.2.2.2.1; omega
    have HZ := Lib.hid hzs
    clear hz hzs
    go_upto_if 65 with fail
    go_cut [9] (fun s9 wx => s9 = .int .i64 (hn : Int) ∧ wx = w5)
    case first =>
      obtain ⟨hn3, _⟩ := HN.out
      rw [← HZ.out] at hn3
      by_cases h256 : 256 < z.size
      · rw [if_pos h256] at hn3
        have y0 : (256 : Int) < (z.size : Int) := by omega
        by_cases h265 : z.size ≤ 265
        · rw [if_pos h265] at hn3
          have y1 : (z.size : Int) ≤ 265 := by omega
          subst hn3
          clear h256 h265
          go_wp2_with fail
          go_meet
          exact ⟨rfl, rfl⟩
        · rw [if_neg h265] at hn3
          have y1 : ¬ ((z.size : Int) ≤ 265) := by omega
          subst hn3
          clear h256 h265
          go_wp2_with fail
          go_meet
          exact ⟨rfl, rfl⟩
      · rw [if_neg h256] at hn3
        have y0 : ¬ ((256 : Int) < (z.size : Int)) := by omega
        subst hn3
        clear h256
        go_wp2_with fail
        go_meet
        exact ⟨rfl, rfl⟩
    case rest =>
    obtain ⟨rfl, rfl⟩ := hcut
    obtain ⟨n0, hn0⟩ : ∃ n0, n0 = X.length - hn := ⟨_, rfl⟩
    obtain ⟨m, hm⟩ : ∃ m, m = 8 * n0 := ⟨_, rfl⟩
    obtain ⟨r, hr⟩ : ∃ r, r = at_ % m := ⟨_, rfl⟩
    obtain ⟨h8, hh8⟩ : ∃ h8, h8 = 8 * hn := ⟨_, rfl⟩
    obtain ⟨-, u1, u2, u3, u4, u5⟩ := HN.out
    have u6 := HZ.out
    rw [← hn0, ← hm, ← hr, ← hh8] at u2
    have E1 : wrap64 ((z.size : Int) - (hn : Int)) = (n0 : Int) := by unfold wrap64; omega
    have E2 : wrap64 (8 * (n0 : Int)) = (m : Int) := by unfold wrap64; omega
    have Em : ¬ ((m : Int) = 0) := by omega
    have E3 : wrap64 (at_ : Int) = (at_ : Int) := by unfold wrap64; omega
    have E4 : (at_ : Int).tmod (m : Int) = (r : Int) := by rw [hr]; rfl
    have E5 : wrap64 (8 * (hn : Int)) = (h8 : Int) := by unfold wrap64; omega
    have E6 : wrap64 ((h8 : Int) + (r : Int)) = (k : Int) := by unfold wrap64; omega
    clear hn0 hm hr hh8 u1 u2 u3 u4 u5 u6
    go_upto_region 16 with fail
    rw [E6]
    clear E1 E2 Em E3 E4 E5 E6
    clear q1
    go_upto_region 18 with (first
      | (go_at_call 23; (with_reducible refine (Hcr.out S p bb _ H5.out.2.2 H5.out.1).mono ?_); rintro e w6 ⟨rfl, hd, hb⟩; have H6 := Lib.hid (And.intro hd (And.intro (H5.out.2.1.on hb) (Nat.le_trans H5.out.2.2 hb.size))); have HB6 := Lib.hid (HB5.out.trans hb); clear hd hb)
      | (go_at_call 25; (with_reducible refine (Htu.out p bb _ H6.out.2.2 H6.out.1).mono ?_); rintro e w7 ⟨rfl, hd, hb⟩; have H7 := Lib.hid (And.intro hd (And.intro (H6.out.2.1.on hb) (Nat.le_trans H6.out.2.2 hb.size))); have HB7 := Lib.hid (HB6.out.trans hb); clear hd hb)
      | (go_at_call 24; (with_reducible refine (Hst.out p bb _ H7.out.2.2 H7.out.1).mono ?_); rintro e w8 ⟨rfl, hd, hb⟩; have H8 := Lib.hid (And.intro hd (And.intro (H7.out.2.1.on hb) (Nat.le_trans H7.out.2.2 hb.size))); have HB8 := Lib.hid (HB7.out.trans hb); clear hd hb))
    go_upto_region 19 with
      (go_at_call 19; (with_reducible refine (Hf3.out p bb _ H8.out.1).mono ?_); rintro e w9 ⟨v, rfl, ho, hb⟩; obtain ⟨gw, cw, rfl, hgf, hcf⟩ := one_file HF3.out ho; have HC9 := Lib.hid hcf; have H9 := Lib.hid (And.intro (H8.out.1.below hb) (And.intro (H8.out.2.1.on (hb.mono H8.out.2.2)) (Nat.le_trans H8.out.2.2 hb.size))); have HB9 := Lib.hid (HB8.out.trans (hb.mono H8.out.2.2)); clear ho hb hgf hcf)
    go_upto_region 20 with fail
    have HI0 := Lib.hid (Below.refl w9.heap.size w9)
    go_loopw [12] (fun s12 wr => ∃ i : Nat, s12 = .int .i64 (i : Int) ∧ i ≤ 2 ∧ Below w9.heap.size w9 wr) (fun s12 _ => 2 - (intOf s12).toNat)
    case atStart => exact ⟨0, rfl, by omega, HI0.out⟩
    case round =>
      obtain ⟨i, rfl, hi, hI⟩ := hrel
      have HI := Lib.hid hI
      clear hI HI0
      by_cases hil : i < 2
      · have hil' : (i : Int) < 2 := by omega
        have hi1 : wrap64 ((i : Int) + 1) = ((i + 1 : Nat) : Int) := by unfold wrap64; omega
        go_upto_region 24 with (first
          | (go_at_call 12; (with_reducible refine (Hha.out p bb _ (H9.out.2.1.on (HI.out.mono H9.out.2.2)).here (H9.out.1.below HI.out)).mono ?_); rintro e w10 ⟨rfl, -, hb⟩; have H10 := Lib.hid (HI.out.trans (hb.mono HI.out.size)); clear hb)
          | (go_at_call 19; (with_reducible refine (Hf3.out p bb _ (H9.out.1.below H10.out)).mono ?_); rintro e w11 ⟨v, rfl, ho, hb⟩; obtain ⟨gn, cn, rfl, hgn, hcf⟩ := one_file HF3.out ho; have HC11 := Lib.hid (hcf w11 (Below.refl _ _)); have H11 := Lib.hid (H10.out.trans (hb.mono H10.out.size)); clear ho hb hgn hcf))
        obtain ⟨A, hA⟩ : ∃ A : ByteArray, A = ⟨(bname slot).toArray⟩ := ⟨_, rfl⟩
        obtain ⟨B, hB⟩ : ∃ B : ByteArray, B = ⟨(Crc.flip X k).toArray⟩ := ⟨_, rfl⟩
        obtain ⟨c0, c1, c2⟩ := HC11.out
        obtain ⟨d0, d1, d2⟩ := HC9.out w11 H11.out
        rw [← hA] at c0 d0
        rw [← hB] at c1 d1
        clear hA hB
        go_quiet (fail)
        have hb := H11.out.trans ((below_drewN (Below.refl w11.heap.size w11) nq).mono H11.out.size)
        have HB12 := Lib.hid hb
        generalize w11.drewN nq = v1 at *
        clear hb c0 c1 c2 d0 d1 d2
        go_wp2
        exact ⟨⟨i + 1, rfl, by omega, HB12.out⟩, by simp only [intOf]; omega⟩
      · have hil' : ¬ ((i : Int) < 2) := by omega
        go_wp2_with (go_at_call 15; (with_reducible refine (Hwk.out _ (H9.out.2.1.on (HI.out.mono H9.out.2.2)).here).mono ?_); rintro e w5 ⟨rfl, hb⟩; have HB5 := Lib.hid (HI.out.trans (hb.mono HI.out.size)); clear hb)
        go_ret
        exact ⟨rfl, (HBX.out.1.trans (HB9.out.mono (Nat.le_of_lt HBN.out))).trans (HB5.out.mono (Nat.le_trans (Nat.le_of_lt HBN.out) H9.out.2.2))⟩
end Go.Proofs.YtogfladmgbldcaaGreatDoor
namespace Go.Proofs.YtogfladmgbldcaaGreatDoor
open Go.ChangeShapes Go.WideShapes Go.Deep Go.RowKit
/-- A base, as an argument tells it. -/
structure OneV where
  slot : BitVec 64
  text : ByteArray
  deriving Inhabited
def oneC (o : OneV) : List Value := [.int .u64 (o.slot.toNat : Int), .string o.text]
theorem tr_u64 {n : Int} (h : (Lit.int .u64 n).wf = true) : ∃ x : BitVec 64, n = (x.toNat : Int) := by
  have h' : 0 ≤ n ∧ n ≤ 18446744073709551615 := by simpa [Lit.wf, IntKind.min, IntKind.max, IntKind.signed, IntKind.bits] using h
  exact ⟨BitVec.ofInt 64 n, by simp only [BitVec.toNat_ofInt]; omega⟩
section
variable {H : Type} {enc : TypeId × Value → H} {w : World} {base : Nat} {spare : Nat → Bool} {held : Bool}
theorem one_parts {vs : List Value} (hl : vs.length = 2) {v0 v1 : Value} {y0 y1 : DataW H × List MemPlace} {n0 n1 : Nat} (e0 : vs[0]? = some v0) (t0 : DataW.trod enc Tryz.prog w base spare held n0 22 [v0] = some y0)
    (e1 : vs[1]? = some v1) (t1 : DataW.trod enc Tryz.prog w base spare held n1 9 [v1] = some y1) : ∃ o : OneV, vs = oneC o := by
  obtain ⟨m0, q0, _, f0⟩ := DataW.trod_int Tryz.underlying22 t0
  obtain ⟨m1, q1, _, _⟩ := DataW.trod_string Tryz.underlying9 t1
  obtain ⟨x0, rfl⟩ := tr_u64 f0
  simp only [List.cons.injEq, and_true] at q0 q1
  subst q0 q1
  refine ⟨⟨x0, m1⟩, ?_⟩
  match vs, hl with
  | [a0, a1], _ =>
    simp only [List.getElem?_cons_zero, List.getElem?_cons_succ, Option.some.injEq] at e0 e1
    rw [e0, e1]
    rfl
theorem open_agg {α : Type} (toCells : α → List Value) {P : Program} {e : TypeId} {fs : Array Field} {cs : Array Value} {d : DataW H} {pl : List MemPlace} (he : P.underlying e = some (.struct fs))
    (hone : oneCellFields P fs = true) (hsz : cs.size = fs.size)
    (hx : ∀ vs : List Value, vs.length = fs.size → (∀ (j : Nat) (f : Field), fs[j]? = some f → ∃ (v : Value) (y : DataW H × List MemPlace) (n : Nat), vs[j]? = some v ∧ DataW.trod enc P w base spare held n f.type [v] = some y) → ∃ x : α, vs = toCells x)
    (h : DataW.Trod enc P w base spare held e (.agg cs) d pl) : ∃ x : α, cs = (toCells x).toArray := by
  obtain ⟨m, hm⟩ := h
  have hm' : DataW.trod enc P w base spare held m e cs.toList = some (d, pl) := hm
  obtain ⟨ys, n', _, _, _, hyl, hf⟩ := DataW.trod_struct he hm'
  have hcl : cs.toList.length = fs.size := by simpa using hsz
  obtain ⟨x, hx⟩ := hx cs.toList hcl (fun j f hj => by
    have hjl : j < fs.size := (Array.getElem?_eq_some_iff.1 hj).1
    obtain ⟨ho, hk⟩ := hone_of hone j f hj
    have hq := hf j f hj
    rw [ho, hk, take1_drop _ _ undef (by omega)] at hq
    refine ⟨cs.toList.getD j undef, ys[j]'(by omega), n', ?_, ?_⟩
    · rw [List.getD, List.getElem?_eq_getElem (show j < cs.toList.length by omega)]; rfl
    · rw [hq, List.getElem?_eq_getElem (by omega)])
  exact ⟨x, by rw [← hx]⟩
set_option maxRecDepth 100000 in
theorem one_open {v : Value} {d : DataW H} {pl : List MemPlace} {r : Reach} {ob : Nat} (hv : Value.okWide Tryz.prog w r ob 46 v) (h : DataW.Trod enc Tryz.prog w base spare held 46 v d pl) : ∃ o : OneV, v = .agg (oneC o).toArray := by
  obtain ⟨cs, rfl, hsz⟩ := okWide_struct Tryz.underlying46 hv
  have h2 : cs.size = 2 := by rw [hsz]; kernel_rfl
  obtain ⟨o, ho⟩ : ∃ o : OneV, cs = (oneC o).toArray := by
    refine open_agg oneC Tryz.underlying46 (by kernel_rfl) (by rw [h2]; rfl) ?_ h
    intro vs hl hf
    obtain ⟨v0, y0, n0, e0, t0⟩ := hf 0 _ rfl
    obtain ⟨v1, y1, n1, e1, t1⟩ := hf 1 _ rfl
    exact one_parts hl e0 t0 e1 t1
  exact ⟨o, by rw [ho]⟩
end
theorem baseWhole_row (o : OneV) (n : Int) {W : World} (hn : (Lit.int .u32 n).wf = true) (hv : PV W) : Calls Tryz.prog 6 #[.agg (oneC o).toArray, .int .u32 n] W fun e w' => e = .returned (.bool true) ∧ Below W.heap.size W w' := by
  have h' : 0 ≤ n ∧ n ≤ 4294967295 := by simpa [Lit.wf, IntKind.min, IntKind.max, IntKind.signed, IntKind.bits] using hn
  have hn2 : n = ((n.toNat : Nat) : Int) := by omega
  rw [hn2]
  exact baseWhole_any o.slot.toNat o.text n.toNat o.slot.isLt (by omega) hv
end Go.Proofs.YtogfladmgbldcaaGreatDoor
