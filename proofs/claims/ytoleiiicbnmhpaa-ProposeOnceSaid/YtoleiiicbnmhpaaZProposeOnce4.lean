/- The sort of keys: the sort itself. Condition: the row lies there. -/
import Derived.Sort.Walk13a
import Derived.Sort.LotC
import Derived.Test.YtoleiiicbnmhpaaZProposeOnce3
import Derived.Maps.OwnSet
import Derived.Maps.OwnOps
import Derived.Test.YtoleiiicbnmhpaaZProposeOnce0
import Derived.Maps.Keyed
import Derived.Carry
import Derived.Test.YtoleiiicbnmhpaaZProposeOnce1
namespace Go.Proofs.Ytoleiiicbnmhpaa
open Go.RowKit Go.Sort
/-- The world of w, but for its row, which is c, and for what was made since. -/
def SrtAt (w : World) (b : Nat) (c : Array Int) (wr : World) : Prop := RowKit.Below w.heap.size (rw64 w 0 b c) wr
theorem rw_hsize (w : World) (n b : Nat) (c : Array Int) : (rw64 w n b c).heap.size = w.heap.size := by
  show (mapBlock _ _ _).heap.size = _
  unfold mapBlock
  simp only [Array.size_modify]
  rfl
section
variable {w wr w1 : World} {b L cap x y : Nat} {c c' d0 : Array Int}
theorem SrtAt.refl (h : R64 w b c) : SrtAt w b c w := by
  unfold SrtAt
  rw [← rw_new h]
  exact RowKit.Below.refl _ _
theorem SrtAt.hsize (h : SrtAt w b c wr) : w.heap.size ≤ wr.heap.size := by
  have := RowKit.Below.size h
  rwa [rw_hsize] at this
theorem SrtAt.row (h : SrtAt w b c wr) (h0 : R64 w b d0) (hs : c.size = d0.size) (hb : b < w.heap.size) : R64 wr b c := (rw_holds h0 0 hs).below hb h
theorem SrtAt.step (h : SrtAt w b c wr) (hs : c'.size = c.size) (h1 : ∃ n, w1 = rw64 wr n b c') : SrtAt w b c' w1 := by
  obtain ⟨n, rfl⟩ := h1
  exact rw_step h n hs
theorem SrtAt.stepG (h : SrtAt w b c wr) (hs : c'.size = c.size) (h1 : RowKit.Below wr.heap.size (rw64 wr 0 b c') w1) : SrtAt w b c' w1 := (h.step hs ⟨0, rfl⟩).trans (h1.mono h.hsize)
theorem SrtAt.same (h : SrtAt w b c wr) (h1 : RowKit.Below wr.heap.size wr w1) : SrtAt w b c w1 := RowKit.Below.trans h (h1.mono h.hsize)
theorem SrtAt.draw (h : SrtAt w b c wr) (q : Nat) : SrtAt w b c (wr.drewN q) := RowKit.Below.trans h ⟨rfl, rfl, rfl, Nat.le_refl _, fun _ _ => rfl⟩
theorem swo64 : SWO ltInt := swo_ltInt
theorem pdq_plain : pdq_stmt ltInt := pdq_holds insertionSort_holds heapSort_holds partialInsertionSort_holds (partition_holds _) (partitionEqual_holds _) reverseRange_holds
theorem s_ins (h : SrtAt w b c wr) (h0 : R64 w b d0) (hs0 : d0.size = L) (hs : c.size = L) (hb : b < w.heap.size) (hxy : x ≤ y) (hy : y ≤ L) (hz : L < 1152921504606846976) :
    Calls Try.prog 41 #[.slice (some ⟨b, 0, none⟩) L cap, .int .i64 (x : Int), .int .i64 (y : Int)] wr fun e w' => e = .returned (.tuple #[]) ∧ SrtAt w b (insertionSort ltInt c x y) w' := by
  have q := ins64 b cap x y c wr (h.row h0 (hs.trans hs0.symm) hb) hxy (by omega) (by omega)
  rw [hs] at q
  refine q.mono ?_
  rintro e w' ⟨rfl, h1⟩
  exact ⟨rfl, h.step (insertionSort_holds swo64 c x y hxy (by omega)).1.1 h1⟩
theorem s_heap (h : SrtAt w b c wr) (h0 : R64 w b d0) (hs0 : d0.size = L) (hs : c.size = L) (hb : b < w.heap.size) (hxy : x < y) (hy : y ≤ L) (hz : L < 1152921504606846976) :
    Calls Try.prog 42 #[.slice (some ⟨b, 0, none⟩) L cap, .int .i64 (x : Int), .int .i64 (y : Int)] wr fun e w' => e = .returned (.tuple #[]) ∧ SrtAt w b (heapSort ltInt c x y) w' := by
  have q := heap64 b cap x y c wr (h.row h0 (hs.trans hs0.symm) hb) hxy (by omega) (by omega)
  rw [hs] at q
  refine q.mono ?_
  rintro e w' ⟨rfl, h1⟩
  exact ⟨rfl, h.step (heapSort_holds swo64 c x y (by omega) (by omega)).1.1 h1⟩
theorem s_brk (h : SrtAt w b c wr) (h0 : R64 w b d0) (hs0 : d0.size = L) (hs : c.size = L) (hb : b < w.heap.size) (hxy : x + 12 < y) (hy : y ≤ L) (hz : L < 1152921504606846976) :
    Calls Try.prog 43 #[.slice (some ⟨b, 0, none⟩) L cap, .int .i64 (x : Int), .int .i64 (y : Int)] wr fun e w' => e = .returned (.tuple #[]) ∧ SrtAt w b (breakPatterns c x y) w' := by
  refine (brk64 b cap L x y c wr hs (h.row h0 (hs.trans hs0.symm) hb) (Nat.lt_of_lt_of_le hb h.hsize) hxy hy hz).mono ?_
  rintro e w' ⟨rfl, h1⟩
  exact ⟨rfl, h.stepG (breakPatterns_holds c x y (by omega) (by omega)).1 h1⟩
theorem s_piv (h : SrtAt w b c wr) (h0 : R64 w b d0) (hs0 : d0.size = L) (hs : c.size = L) (hb : b < w.heap.size) (hxy : x + 12 < y) (hy : y ≤ L) (hz : L < 1152921504606846976) :
    Calls Try.prog 44 #[.slice (some ⟨b, 0, none⟩) L cap, .int .i64 (x : Int), .int .i64 (y : Int)] wr fun e w' => e = .returned (.tuple #[.int .i64 ((choosePivot ltInt c x y).1 : Int), .int .i64 (hintCode (choosePivot ltInt c x y).2)]) ∧ SrtAt w b c w' := by
  refine (piv64 b cap L x y c wr hs (h.row h0 (hs.trans hs0.symm) hb) (Nat.lt_of_lt_of_le hb h.hsize) hxy hy hz).mono ?_
  rintro e w' ⟨rfl, h1⟩
  exact ⟨rfl, h.same h1⟩
theorem s_rev (h : SrtAt w b c wr) (h0 : R64 w b d0) (hs0 : d0.size = L) (hs : c.size = L) (hb : b < w.heap.size) (hxy : x < y) (hy : y ≤ L) (hz : L < 1152921504606846976) :
    Calls Try.prog 45 #[.slice (some ⟨b, 0, none⟩) L cap, .int .i64 (x : Int), .int .i64 (y : Int)] wr fun e w' => e = .returned (.tuple #[]) ∧ SrtAt w b (reverseRange c x y) w' := by
  have q := rev64 b cap x y c wr (h.row h0 (hs.trans hs0.symm) hb) hxy (by omega) (by omega)
  rw [hs] at q
  refine q.mono ?_
  rintro e w' ⟨rfl, h1⟩
  exact ⟨rfl, h.step (reverseRange_holds c x y (by omega) (by omega)).1 h1⟩
theorem s_part (h : SrtAt w b c wr) (h0 : R64 w b d0) (hs0 : d0.size = L) (hs : c.size = L) (hb : b < w.heap.size) (hxy : x + 12 < y) (hy : y ≤ L) (hz : L < 1152921504606846976) (hB : Go.Sort.Below ltInt x y c) :
    Calls Try.prog 46 #[.slice (some ⟨b, 0, none⟩) L cap, .int .i64 (x : Int), .int .i64 (y : Int)] wr fun e w' => e = .returned (.bool (partialInsertionSort ltInt c x y).2) ∧ SrtAt w b (partialInsertionSort ltInt c x y).1 w' := by
  refine (part64 b cap L x y c wr hs (h.row h0 (hs.trans hs0.symm) hb) hxy hy hz).mono ?_
  rintro e w' ⟨rfl, h1⟩
  exact ⟨rfl, h.step (partialInsertionSort_holds swo64 c x y (by omega) (by omega) hB).1.1 h1⟩
theorem s_peq {p : Nat} (h : SrtAt w b c wr) (h0 : R64 w b d0) (hs0 : d0.size = L) (hs : c.size = L) (hb : b < w.heap.size) (hxp : x ≤ p) (hpy : p < y) (hxy : x + 12 < y) (hy : y ≤ L) (hz : L < 1152921504606846976) (hge : (partitionEqual ltInt c x y p).2.size = c.size) :
    Calls Try.prog 48 #[.slice (some ⟨b, 0, none⟩) L cap, .int .i64 (x : Int), .int .i64 (y : Int), .int .i64 (p : Int)] wr fun e w' => e = .returned (.int .i64 ((partitionEqual ltInt c x y p).1 : Int)) ∧ SrtAt w b (partitionEqual ltInt c x y p).2 w' := by
  refine (peq64 b cap L x y p c wr hs (h.row h0 (hs.trans hs0.symm) hb) hxp hpy (by omega) hy hz).mono ?_
  rintro e w' ⟨rfl, h1⟩
  exact ⟨rfl, h.step hge h1⟩
theorem s_prt {p : Nat} (h : SrtAt w b c wr) (h0 : R64 w b d0) (hs0 : d0.size = L) (hs : c.size = L) (hb : b < w.heap.size) (hxp : x ≤ p) (hpy : p < y) (hxy : x + 12 < y) (hy : y ≤ L) (hz : L < 1152921504606846976) :
    Calls Try.prog 49 #[.slice (some ⟨b, 0, none⟩) L cap, .int .i64 (x : Int), .int .i64 (y : Int), .int .i64 (p : Int)] wr fun e w' => e = .returned (.tuple #[.int .i64 ((partition ltInt c x y p).1 : Int), .bool (partition ltInt c x y p).2.1]) ∧ SrtAt w b (partition ltInt c x y p).2.2 w' := by
  refine (prt64 b cap L x y p c wr hs (h.row h0 (hs.trans hs0.symm) hb) hxp hpy (by omega) hy hz).mono ?_
  rintro e w' ⟨rfl, h1⟩
  exact ⟨rfl, h.step (partition_holds _ swo64 c x y p hxp hpy (by omega)).2.2.1.1 h1⟩
end
set_option maxRecDepth 100000 in
set_option maxHeartbeats 16000000 in
theorem pdq64 : ∀ (N b cap L x y lim : Nat) (d : Array Int) (w : World), y - x < N → d.size = L → R64 w b d → b < w.heap.size → x ≤ y → y ≤ L → L < 1152921504606846976 → lim < 1152921504606846976 → Go.Sort.Below ltInt x y d →
    Calls Try.prog 39 #[.slice (some ⟨b, 0, none⟩) L cap, .int .i64 (x : Int), .int .i64 (y : Int), .int .i64 (lim : Int)] w fun e w' => e = .returned (.tuple #[]) ∧ SrtAt w b (pdq ltInt d x y lim true true) w' := by
  intro N
  induction N with
  | zero => intro _ _ _ _ _ _ _ _ h; exact absurd h (Nat.not_lt_zero _)
  | succ N ih =>
    intro b cap L x y lim d w hN hL hR hb hxy hy hz hlim hB0
    have HIH := Lib.hid ih
    have HR := Lib.hid hR
    have HZ := Lib.hid hz
    obtain ⟨goal, hgoal⟩ : ∃ g, g = pdq ltInt d x y lim true true := ⟨_, rfl⟩
    rw [← hgoal]
    have HGL := Lib.hid hgoal
    have HB0 := Lib.hid hB0
    clear hgoal ih hR hz hB0
    go_enter Try.func39, Try.ntmps39
    go_upto_region 2 with fail
    go_loopw [1, 2, 3, 8, 9] (fun s1 s2 s3 s8 s9 wr => ∃ (x' y' li : Nat) (wb wp : Bool) (c : Array Int), s1 = .int .i64 (x' : Int) ∧ s2 = .int .i64 (y' : Int) ∧ s3 = .int .i64 (li : Int) ∧ s8 = .bool wb ∧ s9 = .bool wp ∧ (x' ≤ y' ∧ y' ≤ L ∧ y' - x' ≤ y - x ∧ li ≤ lim) ∧ c.size = L ∧ Hid (Go.Sort.Below ltInt x' y' c) ∧ SrtAt w b c wr ∧ pdq ltInt c x' y' li wb wp = goal) (fun s1 s2 _ _ _ _ => (intOf s2 - intOf s1).toNat)
    case atStart => exact ⟨x, y, lim, true, true, d, rfl, rfl, rfl, rfl, rfl, by omega, hL, HB0.out, SrtAt.refl HR.out, HGL.out.symm⟩
    case round =>
      obtain ⟨x', y', li, wb, wp, c, rfl, rfl, rfl, rfl, rfl, hr, hc, HB, hA, ho⟩ := hrel
      have HO := Lib.hid ho
      have HA := Lib.hid hA
      clear ho hA
      have b1 : x' < 1152921504606846976 := by have := HZ.out; omega
      have b2 : y' < 1152921504606846976 := by have := HZ.out; omega
      have b3 : li < 1152921504606846976 := by omega
      by_cases h12 : y' - x' ≤ 12
      · have h12z : (y' : Int) - (x' : Int) ≤ 12 := by omega
        have HC := Lib.hid (s_ins (cap := cap) HA.out HR.out hL hc hb hr.1 hr.2.1 HZ.out)
        go_wp2_with ((with_reducible refine HC.out.mono ?_); rintro e w1 ⟨rfl, hw1⟩)
        refine bodyPost_ret (results_none rfl _ _ _) rfl ?_
        refine ⟨rfl, ?_⟩
        rw [← HO.out, pdq_small h12]
        exact hw1
      · have h12z : ¬ (y' : Int) - (x' : Int) ≤ 12 := by omega
        have h12w : 12 + (x' : Int) < (y' : Int) := by omega
        by_cases hl0 : li = 0
        · subst hl0
          have HC := Lib.hid (s_heap (cap := cap) HA.out HR.out hL hc hb (show x' < y' by omega) hr.2.1 HZ.out)
          go_wp2_with ((with_reducible refine HC.out.mono ?_); rintro e w1 ⟨rfl, hw1⟩)
          refine bodyPost_ret (results_none rfl _ _ _) rfl ?_
          refine ⟨rfl, ?_⟩
          rw [← HO.out, pdq_heap h12 rfl]
          exact hw1
        · have hl0z : ((li : Int) == 0) = false := by simp; omega
          have hf := rd_facts (limit := li) (wb := wb) (wp := wp) swo64 partialInsertionSort_holds reverseRange_holds (show x' < y' by omega) (show y' ≤ c.size by omega) HB
          have hf1 : wb = false → (rd ltInt c x' y' li wb wp).d1 = breakPatterns c x' y' ∧ (rd ltInt c x' y' li wb wp).lim = li - 1 := fun h => by subst h; exact rd_false
          have hf2 : wb = true → (rd ltInt c x' y' li wb wp).d1 = c ∧ (rd ltInt c x' y' li wb wp).lim = li := fun h => by subst h; exact rd_true
          have hf3 : (rd ltInt c x' y' li wb wp).c = choosePivot ltInt (rd ltInt c x' y' li wb wp).d1 x' y' := rd_c
          have hf4 := @rd_dec _ _ ltInt c x' y' li wb wp
          have hf5 := @rd_not _ _ ltInt c x' y' li wb wp
          have hf6 := @rd_pi_yes _ _ ltInt c x' y' li wb wp
          have hf7 := @rd_pi_no _ _ ltInt c x' y' li wb wp
          have hf8 := @pdq_done _ _ ltInt c x' y' li wb wp h12 hl0
          have hf9 := @pdq_eq _ _ ltInt c x' y' li wb wp h12 hl0
          have hfa := @pdq_left _ _ ltInt c x' y' li wb wp h12 hl0
          have hfb := @pdq_right _ _ ltInt c x' y' li wb wp h12 hl0
          have hfc : (rd ltInt c x' y' li wb wp).lim ≤ li := rd_lim_le
          rw [HO.out] at hf8 hf9 hfa hfb
          generalize rd ltInt c x' y' li wb wp = R at hf hf1 hf2 hf3 hf4 hf5 hf6 hf7 hf8 hf9 hfa hfb hfc
          obtain ⟨d1, lm, cv, d2, pv, hint, pi⟩ := R
          obtain ⟨p1, p2⟩ := pi
          simp only at hf hf1 hf2 hf3 hf4 hf5 hf6 hf7 hf8 hf9 hfa hfb hfc
          obtain ⟨fs1, fB1, fc1, fs2, fB2, fpv, fs3, fB3⟩ := hf
          rw [hc] at fs1 fs2 fs3
          have F1 := Lib.hid hf1
          have F2 := Lib.hid hf2
          have F3 := Lib.hid hf3
          have F4 := Lib.hid hf4
          have F5 := Lib.hid hf5
          have F6 := Lib.hid hf6
          have F7 := Lib.hid hf7
          have F8 := Lib.hid hf8
          have F9 := Lib.hid hf9
          have FA := Lib.hid hfa
          have FB := Lib.hid hfb
          have FS := Lib.hid (And.intro fs1 (And.intro fs2 fs3))
          have FBB := Lib.hid (And.intro fB1 (And.intro fB2 fB3))
          have FH12 := Lib.hid h12
          clear hf1 hf2 hf3 hf4 hf5 hf6 hf7 hf8 hf9 hfa hfb fs1 fs2 fs3 fB1 fB2 fB3 HO h12
          have bl : lm < 1152921504606846976 := by omega
          go_upto_if 35 with fail
          go_cut [3] (fun s3 wx => s3 = .int .i64 (lm : Int) ∧ SrtAt w b d1 wx)
          case first =>
            cases wb
            · have HC := Lib.hid (s_brk (cap := cap) HA.out HR.out hL hc hb (show x' + 12 < y' by have := FH12.out; omega) hr.2.1 HZ.out)
              have G1 := Lib.hid (F1.out rfl)
              have hlm := G1.out.2
              have hli : (li : Int) - 1 = (lm : Int) := by omega
              clear hlm
              go_wp2_with ((with_reducible refine HC.out.mono ?_); rintro e w1 ⟨rfl, hw1⟩; have HW1 := Lib.hid hw1; clear hw1)
              go_meet
              exact ⟨rfl, by rw [G1.out.1]; exact HW1.out⟩
            · have G1 := Lib.hid (F2.out rfl)
              go_wp2_with fail
              go_meet
              exact ⟨by rw [G1.out.2], by rw [G1.out.1]; exact HA.out⟩
          case rest =>
          obtain ⟨rfl, hA1⟩ := hcut
          clear HA hl0z hl0
          have HA := Lib.hid hA1
          clear hA1
          have hp := s_piv (cap := cap) HA.out HR.out hL FS.out.1 hb (show x' + 12 < y' by have := FH12.out; omega) hr.2.1 HZ.out
          rw [← F3.out] at hp
          obtain ⟨c1, c2⟩ := cv
          simp only at hp fc1
          obtain ⟨hv, hhv⟩ : ∃ v, v = hintCode c2 := ⟨_, rfl⟩
          rw [← hhv] at hp
          have HHV := Lib.hid hhv
          have HP := Lib.hid hp
          clear hp hhv
          go_upto_if 50 with ((with_reducible refine HP.out.mono ?_); rintro e w2 ⟨rfl, hw2⟩; have HA2 := Lib.hid hw2; clear hw2)
          clear HA HP
          go_cut [11, 12] (fun s11 s12 wx => s11 = .int .i64 (pv : Int) ∧ s12 = .int .i64 (hintCode hint) ∧ SrtAt w b d2 wx)
          case first =>
            by_cases hh : c2 = .decreasing
            · have G1 := Lib.hid (F4.out hh)
              have hv2 : hv = 2 := by rw [HHV.out, hh]; rfl
              subst hv2
              have HC := Lib.hid (s_rev (cap := cap) HA2.out HR.out hL FS.out.1 hb (show x' < y' by have := FH12.out; omega) hr.2.1 HZ.out)
              have ev : (y' : Int) - 1 - ((c1 : Int) - (x' : Int)) = (pv : Int) := by have := G1.out.2.1; have := FH12.out; omega
              go_wp2_with ((with_reducible refine HC.out.mono ?_); rintro e w3 ⟨rfl, hw3⟩; have HW1 := Lib.hid hw3; clear hw3)
              go_meet
              refine ⟨?_, by rw [G1.out.2.2]; rfl, by rw [G1.out.1]; exact HW1.out⟩
              first | rfl | (rw [← ev])
            · have G1 := Lib.hid (F5.out hh)
              have hv2 : (hv == 2) = false := by
                rw [HHV.out]
                cases c2 with
                | unknown => rfl
                | increasing => rfl
                | decreasing => exact absurd rfl hh
              go_wp2_with fail
              go_meet
              exact ⟨by rw [G1.out.2.1], by rw [G1.out.2.2, HHV.out], by rw [G1.out.1]; exact HA2.out⟩
          case rest =>
          obtain ⟨rfl, rfl, hA3⟩ := hcut
          clear HA2 HHV
          have HA := Lib.hid hA3
          clear hA3
          obtain ⟨B, hB⟩ : ∃ B : Bool, B = (wb && wp && decide (hint = Hint.increasing)) := ⟨_, rfl⟩
          have HB2 := Lib.hid hB
          clear hB
          go_upto_region 15 with fail
          go_cut [12, 68] (fun s12 s68 wx => s12 = .int .i64 (hintCode hint) ∧ s68 = .bool B ∧ wx = wc)
          case first =>
            cases wb <;> cases wp <;> cases hint
            all_goals (go_wp2_with fail; try go_region; all_goals go_wp2_with fail)
            all_goals go_meet
            all_goals exact ⟨rfl, by rw [HB2.out]; rfl, rfl⟩
          case rest =>
          obtain ⟨rfl, rfl, rfl⟩ := hcut
          clear F1 F2 F3 F4 F5 HB
          go_upto_if 68 with fail
          go_cut [68] (fun _ wx => SrtAt w b p1 wx ∧ p2 = false)
          case first =>
            cases B
            · have G1 := Lib.hid (F7.out HB2.out.symm)
              go_wp2_with fail
              go_meet
              have e1 : p1 = d2 := congrArg Prod.fst G1.out
              have e2 : p2 = false := congrArg Prod.snd G1.out
              rw [e1]
              exact ⟨HA.out, e2⟩
            · have G1 := F6.out HB2.out.symm
              have hp := s_part (cap := cap) HA.out HR.out hL FS.out.2.1 hb (show x' + 12 < y' by have := FH12.out; omega) hr.2.1 HZ.out FBB.out.2.1
              rw [← G1] at hp
              simp only at hp
              have HP := Lib.hid hp
              clear hp G1
              cases p2
              · go_wp2_with ((with_reducible refine HP.out.mono ?_); rintro e w3 ⟨rfl, hw3⟩; have HW1 := Lib.hid hw3; clear hw3)
                go_meet
                exact ⟨HW1.out, by first | rfl | trivial⟩
              · have G8 := Lib.hid (F8.out rfl)
                go_wp2_with ((with_reducible refine HP.out.mono ?_); rintro e w3 ⟨rfl, hw3⟩; have HW1 := Lib.hid hw3; clear hw3)
                refine bodyPost_ret (results_none rfl _ _ _) rfl ?_
                exact ⟨rfl, by rw [G8.out]; exact HW1.out⟩
          case rest =>
          obtain ⟨hA4, hp2⟩ := hcut
          subst hp2
          clear HA HB2 F6 F7 F8
          have HA := Lib.hid hA4
          clear hA4
          have hrow := HA.out.row HR.out (by have := FS.out.2.2; omega) hb
          obtain ⟨T, hT⟩ : ∃ T : Bool, T = (decide (x' > 0) && !ltInt p1[x' - 1]! p1[pv]!) := ⟨_, rfl⟩
          have hf9 := F9.out rfl
          have hfa := FA.out rfl
          have hfb := FB.out rfl
          rw [← hT] at hf9 hfa hfb
          have F9' := Lib.hid hf9
          have FA' := Lib.hid hfa
          have FB' := Lib.hid hfb
          have HT := Lib.hid hT
          have HROW := Lib.hid hrow
          clear hf9 hfa hfb hT hrow F9 FA FB
          have hFS := FS.out.2.2
          go_upto_region 17 with fail
          go_cut [87] (fun s87 wx => s87 = .bool T ∧ SrtAt w b p1 wx)
          case first =>
            by_cases hx0 : 0 < x'
            · have hx0' : (0 : Int) < (x' : Int) := by omega
              have c8 : wc.cell? ⟨b, x' - 1, none⟩ = some (.int .u64 p1[x' - 1]!) := by have q := (HROW.out (x' - 1) (by omega)).1; rwa [Nat.zero_add] at q
              have c9 : wc.cell? ⟨b, pv, none⟩ = some (.int .u64 p1[pv]!) := by have q := (HROW.out pv (by omega)).1; rwa [Nat.zero_add] at q
              obtain ⟨v8, hv8⟩ : ∃ v, v = p1[x' - 1]! := ⟨_, rfl⟩
              obtain ⟨v9, hv9⟩ : ∃ v, v = p1[pv]! := ⟨_, rfl⟩
              have HTT := Lib.hid (show T = !ltInt v8 v9 by rw [HT.out, hv8, hv9]; simp [hx0])
              rw [← hv8] at c8
              rw [← hv9] at c9
              clear hv8 hv9
              cases hl : ltInt v8 v9
              all_goals
                go_wp2_with fail
                go_quiet (first | (go_at_call 47; exact Calls.quiet_of_same (less_any _ _ _)))
                go_wp2_with fail
                go_meet
                exact ⟨by rw [HTT.out, hl]; rfl, HA.out.draw _⟩
            · have hx0' : ¬ (0 : Int) < (x' : Int) := by omega
              have hxz : x' = 0 := by omega
              have HTT := Lib.hid (show T = false by rw [HT.out, hxz]; rfl)
              clear hxz
              go_wp2_with fail
              go_quiet (first | (go_at_call 47; exact Calls.quiet_of_same (less_any _ _ _)))
              go_wp2_with fail
              go_meet
              exact ⟨by rw [HTT.out], HA.out.draw _⟩
          case rest =>
          obtain ⟨rfl, hA5⟩ := hcut
          clear HA HROW
          have HA := Lib.hid hA5
          clear hA5
          cases T
          · obtain ⟨E, hE⟩ : ∃ E, E = partition ltInt p1 x' y' pv := ⟨_, rfl⟩
            have hcall := s_prt (cap := cap) HA.out HR.out hL FS.out.2.2 hb fpv.1 fpv.2 (show x' + 12 < y' by have := FH12.out; omega) hr.2.1 HZ.out
            rw [← hE] at hcall
            obtain ⟨mid, ap, d4⟩ := E
            obtain ⟨hr1, hr2, hr3, hr4, hr5, hr6, hr7⟩ := round_part swo64 (partition_holds _) fpv.1 fpv.2 (by omega : y' ≤ p1.size) FBB.out.2.2 hE.symm
            simp only at hcall
            have HC := Lib.hid hcall
            clear hcall
            obtain ⟨t8, ht8⟩ : ∃ t : Nat, t = (y' - x') / 8 := ⟨_, rfl⟩
            have he8 : ((y' : Int) - (x' : Int)).tdiv 8 = (t8 : Int) := by rw [Int.tdiv_eq_ediv_of_nonneg (by omega)]; omega
            have bm : mid < 1152921504606846976 := by omega
            have b8 : t8 < 1152921504606846976 := by omega
            by_cases hlr : mid - x' < y' - mid
            · have hlr' : (mid : Int) - (x' : Int) < (y' : Int) - (mid : Int) := by omega
              have hb8 : decide ((t8 : Int) ≤ (mid : Int) - (x' : Int)) = decide (mid - x' ≥ (y' - x') / 8) := decide_eq_decide.2 ⟨fun h => by omega, fun h => by omega⟩
              have hpp := pdq_plain swo64 d4 (x') (mid) lm true true (by omega) (by omega) hr4
              have hnx := (hr6 _ hpp.1 hpp.2).1
              have hg := FA'.out rfl
              rw [← hE] at hg
              have hg2 := hg ⟨hr1, hr2⟩ hlr
              have hsz : (pdq ltInt d4 (x') (mid) lm true true).size = d4.size := hpp.1.1
              obtain ⟨Q, hQ⟩ : ∃ Q, Q = pdq ltInt d4 (x') (mid) lm true true := ⟨_, rfl⟩
              simp only at hg2
              rw [← hQ] at hnx hg2 hsz
              rw [← hb8] at hg2
              have HG2 := Lib.hid hg2
              have HNX := Lib.hid hnx
              have HQ := Lib.hid hQ
              have HSZ := Lib.hid (And.intro hsz hr3)
              have HH := Lib.hid (fun (w1 : World) (h1 : SrtAt w b d4 w1) => HIH.out b cap L (x') (mid) lm d4 w1 (by omega) (by omega) (h1.row HR.out (by omega) hb) (Nat.lt_of_lt_of_le hb h1.hsize) (by omega) (by omega) HZ.out bl hr4)
              have E8 := Lib.hid he8
              have HR12 := Lib.hid (And.intro hr1 hr2)
              clear hg hg2 hnx hQ hpp hsz hr3 hr4 hr5 hr6 hr7 hE hb8 ht8
              have hH : ∀ w1 : World, SrtAt w b d4 w1 → Calls Try.prog 39 #[.slice (some ⟨b, 0, none⟩) L cap, .int .i64 (x' : Int), .int .i64 (mid : Int), .int .i64 (lm : Int)] w1 fun e w' => e = .returned (.tuple #[]) ∧ SrtAt w1 b Q w' := by
                intro w1 h1
                have q := HH.out w1 h1
                rw [← HQ.out] at q
                exact q
              have HH2 := Lib.hid hH
              clear hH HH
              go_wp2_with (first | ((with_reducible refine HC.out.mono ?_); rintro e w3 ⟨rfl, hw3⟩; have HW1 := Lib.hid hw3; clear hw3) | ((with_reducible refine (HH2.out _ HW1.out).mono ?_); rintro e w4 ⟨rfl, hw4⟩; have HW2 := Lib.hid hw4; clear hw4))
              exact ⟨⟨mid + 1, y', lm, decide ((t8 : Int) ≤ (mid : Int) - (x' : Int)), ap, Q, rfl, rfl, rfl, rfl, rfl, by have := HR12.out; omega, by have := HSZ.out; omega, HNX.out, HW1.out.stepG HSZ.out.1 HW2.out, HG2.out.symm⟩, by have := HR12.out; simp only [intOf]; omega⟩
            · have hlr' : ¬ (mid : Int) - (x' : Int) < (y' : Int) - (mid : Int) := by omega
              have hb8 : decide ((t8 : Int) ≤ (y' : Int) - (mid : Int)) = decide (y' - mid ≥ (y' - x') / 8) := decide_eq_decide.2 ⟨fun h => by omega, fun h => by omega⟩
              have hpp := pdq_plain swo64 d4 (mid + 1) (y') lm true true (by omega) (by omega) hr5
              have hnx := (hr7 _ hpp.1 hpp.2).1
              have hg := FB'.out rfl
              rw [← hE] at hg
              have hg2 := hg ⟨hr1, hr2⟩ hlr
              have hsz : (pdq ltInt d4 (mid + 1) (y') lm true true).size = d4.size := hpp.1.1
              obtain ⟨Q, hQ⟩ : ∃ Q, Q = pdq ltInt d4 (mid + 1) (y') lm true true := ⟨_, rfl⟩
              simp only at hg2
              rw [← hQ] at hnx hg2 hsz
              rw [← hb8] at hg2
              have HG2 := Lib.hid hg2
              have HNX := Lib.hid hnx
              have HQ := Lib.hid hQ
              have HSZ := Lib.hid (And.intro hsz hr3)
              have HH := Lib.hid (fun (w1 : World) (h1 : SrtAt w b d4 w1) => HIH.out b cap L (mid + 1) (y') lm d4 w1 (by omega) (by omega) (h1.row HR.out (by omega) hb) (Nat.lt_of_lt_of_le hb h1.hsize) (by omega) (by omega) HZ.out bl hr5)
              have E8 := Lib.hid he8
              have HR12 := Lib.hid (And.intro hr1 hr2)
              clear hg hg2 hnx hQ hpp hsz hr3 hr4 hr5 hr6 hr7 hE hb8 ht8
              have hH : ∀ w1 : World, SrtAt w b d4 w1 → Calls Try.prog 39 #[.slice (some ⟨b, 0, none⟩) L cap, .int .i64 ((mid : Int) + 1), .int .i64 (y' : Int), .int .i64 (lm : Int)] w1 fun e w' => e = .returned (.tuple #[]) ∧ SrtAt w1 b Q w' := by
                intro w1 h1
                have q := HH.out w1 h1
                rw [← HQ.out] at q
                exact q
              have HH2 := Lib.hid hH
              clear hH HH
              go_wp2_with (first | ((with_reducible refine HC.out.mono ?_); rintro e w3 ⟨rfl, hw3⟩; have HW1 := Lib.hid hw3; clear hw3) | ((with_reducible refine (HH2.out _ HW1.out).mono ?_); rintro e w4 ⟨rfl, hw4⟩; have HW2 := Lib.hid hw4; clear hw4))
              exact ⟨⟨x', mid, lm, decide ((t8 : Int) ≤ (y' : Int) - (mid : Int)), ap, Q, rfl, rfl, rfl, rfl, rfl, by have := HR12.out; omega, by have := HSZ.out; omega, HNX.out, HW1.out.stepG HSZ.out.1 HW2.out, HG2.out.symm⟩, by have := HR12.out; simp only [intOf]; omega⟩
          · have hx0 : 0 < x' ∧ ltInt p1[x' - 1]! p1[pv]! = false := by simpa using HT.out.symm
            obtain ⟨E, hE⟩ : ∃ E, E = partitionEqual ltInt p1 x' y' pv := ⟨_, rfl⟩
            obtain ⟨mid, d4⟩ := E
            obtain ⟨hr1, hr2, hr3, hr4, _⟩ := round_eq swo64 (partitionEqual_holds _) hx0.1 fpv.1 fpv.2 (by omega : y' ≤ p1.size) FBB.out.2.2 hx0.2 hE.symm
            have hcall := s_peq (cap := cap) HA.out HR.out hL FS.out.2.2 hb fpv.1 fpv.2 (show x' + 12 < y' by have := FH12.out; omega) hr.2.1 HZ.out (by rw [← hE]; exact hr3)
            have hg := F9'.out rfl
            rw [← hE] at hcall hg
            have HG2 := Lib.hid (hg ⟨hr1, hr2⟩)
            simp only at hcall
            have HC := Lib.hid hcall
            have HB4 := Lib.hid hr4
            have HSZ := Lib.hid hr3
            clear hcall hg hx0 hE hr3 hr4
            go_wp2_with ((with_reducible refine HC.out.mono ?_); rintro e w3 ⟨rfl, hw3⟩; have HW1 := Lib.hid hw3; clear hw3)
            exact ⟨⟨mid, y', lm, wb, wp, d4, rfl, rfl, rfl, rfl, rfl, by omega, by have := HSZ.out; omega, HB4.out, HW1.out, HG2.out.symm⟩, by simp only [intOf]; omega⟩
/-- What slices.Sort makes of keys. -/
theorem sort_plain (l : List Int) : ((Go.Sort.sort ltInt l.toArray).toList = l.mergeSort (fun x y => decide (x ≤ y))) := sortInt_holds (sort_holds pdq_plain) l
theorem sorted64 (b cap L : Nat) (d : Array Int) (w : World) (hL : d.size = L) (hR : R64 w b d) (hb : b < w.heap.size) (hz : L < 1152921504606846976) :
    Calls Try.prog 35 #[.slice (some ⟨b, 0, none⟩) L cap] w fun e w' => e = .returned (.tuple #[]) ∧ SrtAt w b (Go.Sort.sort ltInt d) w' := by
  have hl62 : bitsLen L ≤ 62 := (bitsLen_le_iff L 62).2 (by omega)
  have H := pdq64 (L + 1) b cap L 0 L (bitsLen L) d w (by omega) hL hR hb (by omega) (Nat.le_refl _) hz (by omega) (Or.inl rfl)
  rw [show Go.Sort.sort ltInt d = pdq ltInt d 0 L (bitsLen L) true true by rw [Go.Sort.sort, hL]]
  rw [show ((0 : Nat) : Int) = 0 from rfl] at H
  have HH := Lib.hid H
  have HB := Lib.hid (blen2_any L (by omega) w)
  have n0 : IntKind.u64.wrap (L : Int) = (L : Int) := by rw [IntKind.wrap_u64]; omega
  generalize pdq ltInt d 0 L (bitsLen L) true true = R at *
  generalize bitsLen L = k at *
  clear H hR
  go_enter Try.func35, Try.ntmps35
  go_wp2_with (first | ((with_reducible refine HB.out.mono ?_); rintro e w3 ⟨rfl, rfl⟩) | ((with_reducible refine HH.out.mono ?_); rintro e w4 ⟨rfl, hw4⟩; have HW := Lib.hid hw4; clear hw4))
  refine bodyPost_end (results_none rfl _ _ _) rfl ?_
  exact ⟨rfl, HW.out⟩
end Go.Proofs.Ytoleiiicbnmhpaa
namespace Go.Proofs.Ytoleiiicbnmhpaa
open Go.RowKit
open Go.Maps (Keyed)
open Go.ChangeMaps Go.MapKept
/-- How a value reads: as itself. -/
def Rv (v : Value) : Option (DataW Value × List MemPlace) := some (.held v, [])
/-- Block b is a map of at most n entries that holds what M tells. -/
def MpAt (P : Program) (k : TypeId) (w : World) (b n : Nat) (M : Lit → Option Value) : Prop :=
  ∃ D : DataW Value, w.ownsMap P k Rv b n D ∧ ∀ l, WideAt.IsKeyLit l → Maps.has D l = (M l).isSome ∧ ∀ v, M l = some v → ∀ z, D.atKey l z = .held v
def mpPut (M : Lit → Option Value) (k : Lit) (v : Value) : Lit → Option Value := fun l => if l.sameKey k then some v else M l
def mpDel (M : Lit → Option Value) (k : Lit) : Lit → Option Value := fun l => if l.sameKey k then none else M l
section
variable {P : Program} {k : TypeId} {w w' : World} {b n : Nat} {M : Lit → Option Value}
theorem MpAt.lt (h : MpAt P k w b n M) : b < w.heap.size := by obtain ⟨_, h, _⟩ := h; exact h.lt
theorem MpAt.below (h : MpAt P k w b n M) (hb : Below w.heap.size w w') : MpAt P k w' b n M := by
  obtain ⟨D, ⟨es, clock, hg, r⟩, hM⟩ := h
  exact ⟨D, ⟨es, clock, (hb.block b (Array.getElem?_eq_some_iff.1 hg).1).trans hg, r⟩, hM⟩
theorem MpAt.stay (h : MpAt P k w b n M) (hb : w'.heap[b]? = w.heap[b]?) : MpAt P k w' b n M := by
  obtain ⟨D, ⟨es, clock, hg, r⟩, hM⟩ := h
  exact ⟨D, ⟨es, clock, hb.trans hg, r⟩, hM⟩
theorem MpAt.mono (h : MpAt P k w b n M) {m : Nat} (hm : n ≤ m) : MpAt P k w b m M := by obtain ⟨D, h, hM⟩ := h; exact ⟨D, h.mono hm, hM⟩
theorem mp_new (P : Program) (k : TypeId) (w : World) : MpAt P k (w.alloc (.map #[] 0)) w.heap.size 0 (fun _ => none) :=
  ⟨.map [], World.ownsMap_made w P k Rv, fun l _ => ⟨rfl, fun v h => by cases h⟩⟩
theorem mp_at (_h : MpAt P k w b n M) {l : Lit} (_hl : WideAt.IsKeyLit l) {v : Value} {ps : List MemPlace} {z : Value} {D : DataW Value} (hD : Maps.has D l = (M l).isSome ∧ ∀ v, M l = some v → ∀ z, D.atKey l z = .held v) (hv : Rv v = some (D.atKey l (.held z), ps)) : v = (M l).getD z := by
  have e : DataW.held v = D.atKey l (.held z) := congrArg Prod.fst (Option.some.inj hv)
  cases hm : M l with
  | none =>
    rw [hm] at hD
    rw [Maps.atKey_of_not_has hD.1] at e
    cases e
    rfl
  | some u =>
    rw [hD.2 u hm] at e
    cases e
    rfl
/-- 'm[k]'. -/
theorem MpAt.look {t e : TypeId} (h : MpAt P k w b n M) (K : Keyed P k) (ht : P.underlying t = some (.map k e)) {z : Value} (hz : (zeroValue e).run P w = .ok z w) {key : Value} {kl : Lit} (hkey : keyOf P k key = some kl) :
    (Instr.lookup t (.map (some b)) key false).run P w = .ok ((M kl).getD z) w := by
  have h2 := h
  obtain ⟨D, ho, hM⟩ := h
  obtain ⟨v, ps, hrun, hv⟩ := ho.lookup K ht hz (zd := .held z) (zp := []) rfl hkey
  rw [hrun, mp_at h2 (K.key hkey) (hM _ (K.key hkey)) hv]
/-- 'v, ok := m[k]'. -/
theorem MpAt.look_ok {t e : TypeId} (h : MpAt P k w b n M) (K : Keyed P k) (ht : P.underlying t = some (.map k e)) {z : Value} (hz : (zeroValue e).run P w = .ok z w) {key : Value} {kl : Lit} (hkey : keyOf P k key = some kl) :
    (Instr.lookup t (.map (some b)) key true).run P w = .ok (.tuple #[(M kl).getD z, .bool (M kl).isSome]) w := by
  have h2 := h
  obtain ⟨D, ho, hM⟩ := h
  obtain ⟨v, ps, hrun, hv⟩ := ho.look_ok K ht hz (zd := .held z) (zp := []) rfl hkey
  rw [hrun, mp_at h2 (K.key hkey) (hM _ (K.key hkey)) hv, (hM _ (K.key hkey)).1]
/-- 'm[k] = v'. -/
theorem MpAt.store {t e : TypeId} (h : MpAt P k w b n M) (K : Keyed P k) (ht : P.underlying t = some (.map k e)) (hn : n < maxLen) {key val : Value} {kl : Lit} (hkey : keyOf P k key = some kl) :
    ∃ w', (Instr.mapUpdate t (.map (some b)) key val).run P w = .ok () w' ∧ MpAt P k w' b (n + 1) (mpPut M kl val) ∧ w.mapTurned w' b := by
  obtain ⟨D, ho, hM⟩ := h
  obtain ⟨w', hrun, ho', ht'⟩ := ho.store K ht hn (d := .held val) (ps := []) hkey rfl
  refine ⟨w', hrun, ⟨_, ho', fun l hl => ?_⟩, ht'⟩
  unfold mpPut
  by_cases he : l = kl
  · subst he
    rw [if_pos (WideAt.sameKey_self hl)]
    exact ⟨Maps.has_put_same ho.isMap hl _, fun v hv z => by cases hv; exact Maps.atKey_put_same ho.isMap hl _ _⟩
  · rw [if_neg (fun q => he (WideAt.sameKey_eq q))]
    refine ⟨(Maps.has_put_other he _).trans (hM l hl).1, fun v hv z => (Maps.atKey_put_other he _ _).trans ((hM l hl).2 v hv z)⟩
/-- 'delete(m, k)'. -/
theorem MpAt.drop {t e : TypeId} (h : MpAt P k w b n M) (K : Keyed P k) (ht : P.underlying t = some (.map k e)) {key : Value} {kl : Lit} (hkey : keyOf P k key = some kl) (ty : TypeId) :
    ∃ w', (Builtin.delete_ #[t, k] ty #[.map (some b), key]).run P w = .ok (.tuple #[]) w' ∧ MpAt P k w' b n (mpDel M kl) ∧ w.mapTurned w' b := by
  obtain ⟨D, ho, hM⟩ := h
  obtain ⟨w', hrun, ho', ht'⟩ := ho.drop K ht hkey ty
  refine ⟨w', hrun, ⟨_, ho', fun l hl => ?_⟩, ht'⟩
  unfold mpDel
  by_cases he : l = kl
  · subst he
    rw [if_pos (WideAt.sameKey_self hl)]
    exact ⟨Maps.has_del_same, fun v hv => by cases hv⟩
  · rw [if_neg (fun q => he (WideAt.sameKey_eq q))]
    exact ⟨(Maps.has_del_other he).trans (hM l hl).1, fun v hv z => (Maps.atKey_del_other he _).trans ((hM l hl).2 v hv z)⟩
theorem turned_block {w w' : World} {b : Nat} (h : w.mapTurned w' b) {g : Nat} (hg : g ≠ b) : w'.heap[g]? = w.heap[g]? := by
  obtain ⟨es, clock, es', clock', hb, rfl⟩ := h
  exact heap_setBlock_other hb _ hg
theorem turned_below {w w' w0 : World} {b m : Nat} (h : w.mapTurned w' b) (h0 : Below m w0 w) (hm : m ≤ b) : Below m w0 w' := by
  obtain ⟨es, clock, es', clock', hb, rfl⟩ := h
  refine h0.trans ⟨rfl, rfl, rfl, by simp [setBlock], fun g hg => heap_setBlock_other hb _ (fun e => ?_)⟩
  omega
end
section
variable {P : Program} {w : World} {ops : Array Oper} {rest : List Oper} {o : Oper} {a : Act} {Q : Exit → Act → World → Prop} {k : TypeId} {b n : Nat} {M : Lit → Option Value}
theorem wpList_look_mp (hg : o.guard = none) (m x : Operand) (t e : TypeId) (hop : o.op = Op.lookup t m x false) (K : Keyed P k) (ht : P.underlying t = some (.map k e)) {z : Value} (hz : ∀ w, (zeroValue e).run P w = .ok z w)
    (hm : a.eval m = .map (some b)) (h : MpAt P k w b n M) (key : Value) (kl : Lit) (hx : a.eval x = key) (hkey : keyOf P k key = some kl)
    (hK : wpList P ops Q rest (a.put o.dst ((M kl).getD z)) w) : wpList P ops Q (o :: rest) a w := by
  refine wpList_plain hg fun K' hK' => ?_
  unfold Oper.wp
  simp [execOp, hop, hm, hx, h.look K ht (hz w) hkey, Result.andThen]
  exact hK' _ _ hK
theorem wpList_lookok_mp (hg : o.guard = none) (m x : Operand) (t e : TypeId) (hop : o.op = Op.lookup t m x true) (K : Keyed P k) (ht : P.underlying t = some (.map k e)) {z : Value} (hz : ∀ w, (zeroValue e).run P w = .ok z w)
    (hm : a.eval m = .map (some b)) (h : MpAt P k w b n M) (key : Value) (kl : Lit) (hx : a.eval x = key) (hkey : keyOf P k key = some kl)
    (hK : wpList P ops Q rest (a.put o.dst (.tuple #[(M kl).getD z, .bool (M kl).isSome])) w) : wpList P ops Q (o :: rest) a w := by
  refine wpList_plain hg fun K' hK' => ?_
  unfold Oper.wp
  simp [execOp, hop, hm, hx, h.look_ok K ht (hz w) hkey, Result.andThen]
  exact hK' _ _ hK
theorem wpList_store_mp (hg : o.guard = none) (m x v : Operand) (t e : TypeId) (hop : o.op = Op.mapUpdate t m x v) (K : Keyed P k) (ht : P.underlying t = some (.map k e))
    (hm : a.eval m = .map (some b)) (h : MpAt P k w b n M) (hn : n < maxLen) (key val : Value) (kl : Lit) (hx : a.eval x = key) (hv : a.eval v = val) (hkey : keyOf P k key = some kl)
    (hK : ∀ w', MpAt P k w' b (n + 1) (mpPut M kl val) → w.mapTurned w' b → wpList P ops Q rest (a.put o.dst undef) w') : wpList P ops Q (o :: rest) a w := by
  refine wpList_plain hg fun K' hK' => ?_
  obtain ⟨w', hrun, r1, r2⟩ := h.store K ht hn (val := val) hkey
  unfold Oper.wp
  simp [execOp, hop, hm, hx, hv, hrun, Result.andThen]
  exact hK' _ _ (hK w' r1 r2)
theorem wpList_drop_mp (hg : o.guard = none) (m x : Operand) (t e : TypeId) (hop : o.op = Op.call { callee := Callee.builtin Builtin.delete, args := #[m, x], argTypes := #[t, k] }) (K : Keyed P k) (ht : P.underlying t = some (.map k e))
    (hm : a.eval m = .map (some b)) (h : MpAt P k w b n M) (key : Value) (kl : Lit) (hx : a.eval x = key) (hkey : keyOf P k key = some kl)
    (hK : ∀ w', MpAt P k w' b n (mpDel M kl) → w.mapTurned w' b → wpList P ops Q rest (a.put o.dst (.tuple #[])) w') : wpList P ops Q (o :: rest) a w := by
  refine wpList_plain hg fun K' hK' => ?_
  obtain ⟨w', hrun, r1, r2⟩ := h.drop K ht hkey o.type
  unfold Oper.wp
  simp [execOp, hop, resolve, invoke, builtin, hm, hx, hrun, Result.andThen]
  exact hK' _ _ (hK w' r1 r2)
end
end Go.Proofs.Ytoleiiicbnmhpaa
namespace Go.Proofs.Ytoleiiicbnmhpaa
open Go.RowKit
open Go.Maps (Keyed)
theorem thawed_row {w : World} {p : Nat} {cs : Array Value} {t : TypeId} (j : Nat) (h : w.heap[p]? = some (.cells cs t (0, 0))) : w.frozen? ⟨p, j, none⟩ = false := by
  unfold World.frozen?
  rw [h]
  rfl
structure OpR where
  x : ByteArray
  c : Nat
  who : Nat
def opCells (s : Nat) (r : OpR) : List Value := [.int .u64 (s : Int), .string r.x, .int .u8 (r.c : Int), .int .u8 (r.who : Int)]
def opV (s : Nat) (r : OpR) : Value := .agg (opCells s r).toArray
def op0 : OpR := ⟨ByteArray.empty, 0, 0⟩
theorem op_one (s : Nat) (r : OpR) : ∀ u ∈ opCells s r, u.oneCell' = true := by simp [opCells, Value.oneCell']
theorem op_size (s : Nat) (r : OpR) : (Try.prog.info? 63).map (·.size) = some (opCells s r).length := (by kernel_rfl : (Try.prog.info? 63).map (·.size) = some 4)
theorem op_zero (w : World) : (zeroValue 63).run Try.prog w = .ok (opV 0 op0) w := by kernel_rfl
theorem lawU : Keyed Try.prog 31 := Maps.int_keyed Try.underlying31
/-- A slot, as a key. -/
def ku (s : Nat) : Lit := .int .u64 (s : Int)
theorem key_ku {s : Nat} (h : s < 18446744073709551616) : keyOf Try.prog 31 (.int .u64 (s : Int)) = some (ku s) := Maps.keyOf_int_mk Try.underlying31 (by simp [Lit.wf, IntKind.min, IntKind.max, IntKind.signed, IntKind.bits]; omega)
def mpOf (D : Nat → Option OpR) : Lit → Option Value
  | .int .u64 a => if 0 ≤ a then (D a.toNat).map (opV a.toNat) else none
  | _ => none
def updD (D : Nat → Option OpR) (s : Nat) (r : Option OpR) : Nat → Option OpR := fun k => if k = s then r else D k
theorem mpOf_at (D : Nat → Option OpR) (s : Nat) : mpOf D (ku s) = (D s).map (opV s) := by simp [mpOf, ku]
theorem mpOf_upd (D : Nat → Option OpR) (s : Nat) (r : Option OpR) (l : Lit) : (if l.sameKey (ku s) then r.map (opV s) else mpOf D l) = mpOf (updD D s r) l := by
  unfold ku
  cases l with
  | int q a =>
    cases q <;> simp [Lit.sameKey, mpOf]
    by_cases h : a = (s : Int)
    · subst h
      simp [updD]
    · rw [if_neg h]
      split
      · next h0 =>
        have : a.toNat ≠ s := by omega
        simp [updD, this]
      · rfl
  | _ => simp [Lit.sameKey, mpOf]
theorem mpOf_put (D : Nat → Option OpR) (s : Nat) (r : OpR) : mpPut (mpOf D) (ku s) (opV s r) = mpOf (updD D s (some r)) := funext fun l => mpOf_upd D s (some r) l
theorem mpOf_del (D : Nat → Option OpR) (s : Nat) : mpDel (mpOf D) (ku s) = mpOf (updD D s none) := funext fun l => mpOf_upd D s none l
/-- A desk lies there: its block, its map. -/
structure DeskAt (w : World) (p g n : Nat) (D : Nat → Option OpR) (last : Nat) : Prop where
  row : w.heap[p]? = some (.cells #[.map (some g), .int .u64 (last : Int)] 67 (0, 0))
  mp : MpAt Try.prog 31 w g n (mpOf D)
theorem DeskAt.lt {w : World} {p g n last : Nat} {D : Nat → Option OpR} (h : DeskAt w p g n D last) : p < w.heap.size := (Array.getElem?_eq_some_iff.1 h.row).1
theorem DeskAt.ne {w : World} {p g n last : Nat} {D : Nat → Option OpR} (h : DeskAt w p g n D last) : p ≠ g := by
  rintro rfl
  obtain ⟨_, ⟨es, cl, hg, _⟩, _⟩ := h.mp
  have := h.row
  rw [hg] at this
  cases this
theorem DeskAt.stay {w w' : World} {p g n last : Nat} {D : Nat → Option OpR} (h : DeskAt w p g n D last) (hp : w'.heap[p]? = w.heap[p]?) (hg : w'.heap[g]? = w.heap[g]?) : DeskAt w' p g n D last := ⟨hp.trans h.row, h.mp.stay hg⟩
theorem DeskAt.below {w w' : World} {p g n last : Nat} {D : Nat → Option OpR} (h : DeskAt w p g n D last) (hb : Below w.heap.size w w') : DeskAt w' p g n D last := h.stay (hb.block p h.lt) (hb.block g h.mp.lt)
theorem DeskAt.cells {w : World} {p g n last : Nat} {D : Nat → Option OpR} (h : DeskAt w p g n D last) : w.cell? ⟨p, 0, none⟩ = some (.map (some g)) ∧ w.cell? ⟨p, 1, none⟩ = some (.int .u64 (last : Int)) := ⟨cell_of_row _ _ _ _ _ _ h.row, cell_of_row _ _ _ _ _ _ h.row⟩
/-- But for two blocks, nothing that lay there turned. -/
structure ButTwo (p g : Nat) (w w' : World) : Prop where
  os : w'.os = w.os
  tape : w'.tape = w.tape
  output : w'.output = w.output
  size : w.heap.size ≤ w'.heap.size
  block : ∀ k, k < w.heap.size → k ≠ p → k ≠ g → w'.heap[k]? = w.heap[k]?
theorem two_of {p g : Nat} {w w' : World} (h : Below w.heap.size w w') : ButTwo p g w w' := ⟨h.os, h.tape, h.output, h.size, fun k hk _ _ => h.block k hk⟩
theorem ButTwo.trans {p g : Nat} {a b c : World} (h : ButTwo p g a b) (k : ButTwo p g b c) : ButTwo p g a c := ⟨k.os.trans h.os, k.tape.trans h.tape, k.output.trans h.output, Nat.le_trans h.size k.size, fun i hi h1 h2 => (k.block i (Nat.lt_of_lt_of_le hi h.size) h1 h2).trans (h.block i hi h1 h2)⟩
theorem ButTwo.below {p g m : Nat} {w0 w w' : World} (h : ButTwo p g w w') (h0 : Below m w0 w) (hm : m ≤ w.heap.size) (hp : m ≤ p) (hg : m ≤ g) : Below m w0 w' := h0.trans ⟨h.os, h.tape, h.output, h.size, fun k hk => h.block k (by omega) (by omega) (by omega)⟩
theorem two_turned {p g : Nat} {w w' : World} (h : w.mapTurned w' g) : ButTwo p g w w' := by
  have hs := h.grown
  exact ⟨hs.os, hs.tape, hs.output, hs.size, fun k hk _ hg => turned_block h hg⟩
theorem two_cell {p g i : Nat} {w : World} (x : Value) : ButTwo p g w (w.setCell ⟨p, i, none⟩ x) := ⟨rfl, rfl, rfl, by simp, fun k _ hp _ => Below.heap_setCell _ _ _ _ hp⟩
theorem dnew_any (w : World) : Calls Try.prog 10 #[] w fun e w' => e = .returned (.pointer (some ⟨w.heap.size + 1, 0, none⟩)) ∧ DeskAt w' (w.heap.size + 1) w.heap.size 0 (fun _ => none) 0 ∧ Below w.heap.size w w' := by
  have hb := ((Below.refl w.heap.size w).alloc (Nat.le_refl _) (.map #[] 0)).alloc (by simp) (.cells #[.map (some w.heap.size), .int .u64 0] 67)
  have hd : DeskAt ((w.alloc (.map #[] 0)).alloc (.cells #[.map (some w.heap.size), .int .u64 0] 67)) (w.heap.size + 1) w.heap.size 0 (fun _ => none) 0 := by
    refine ⟨?_, ?_⟩
    · have := heap_alloc_new (w.alloc (.map #[] 0)) (.cells #[.map (some w.heap.size), .int .u64 0] 67)
      rwa [World.size_alloc] at this
    · have e : (fun _ => none : Lit → Option Value) = mpOf (fun _ => none) := by
        funext l
        cases l with
        | int q a => cases q <;> simp [mpOf]
        | _ => rfl
      rw [← e]
      exact (mp_new _ _ w).below ((Below.refl _ _).alloc (Nat.le_refl _) _)
  have H := Lib.hid (And.intro hd hb)
  clear hd hb
  have hmm := @run_makeMap Try.prog
  go_enter Try.func10, Try.ntmps10
  go_wp2_with fail
  go_ret
  exact ⟨rfl, H.out.1, H.out.2⟩
theorem dlast_any (p g n last : Nat) (Dm : Nat → Option OpR) (w : World) (h : DeskAt w p g n Dm last) : Calls Try.prog 17 #[.pointer (some ⟨p, 0, none⟩)] w fun e w' => e = .returned (.int .u64 (last : Int)) ∧ Below w.heap.size w w' := by
  obtain ⟨c0, c1⟩ := h.cells
  clear h
  go_enter Try.func17, Try.ntmps17
  go_wp2_with fail
  go_ret
  exact ⟨rfl, Below.refl _ _⟩
theorem dclose_any (p g n last : Nat) (Dm : Nat → Option OpR) (s : Nat) (hs : s < 18446744073709551616) (w : World) (h : DeskAt w p g n Dm last) : Calls Try.prog 15 #[.pointer (some ⟨p, 0, none⟩), .int .u64 (s : Int)] w fun e w' => e = .returned (.tuple #[]) ∧ DeskAt w' p g n (updD Dm s none) last ∧ ButTwo p g w w' := by
  obtain ⟨c0, c1⟩ := h.cells
  have H := Lib.hid h
  have hk := key_ku hs
  clear h c1
  go_enter Try.func15, Try.ntmps15
  go_wp2_with (at_delete; refine wpList_drop_mp rfl _ _ 65 63 rfl lawU Try.underlying65 rfl H.out.mp _ (ku s) rfl hk ?_; intro w1 hm1 ht1; have H1 := Lib.hid (And.intro hm1 ht1); clear hm1 ht1)
  refine bodyPost_end (results_none rfl _ _ _) rfl ?_
  have hd := H1.out.1
  rw [mpOf_del] at hd
  exact ⟨rfl, ⟨(turned_block H1.out.2 H.out.ne).trans H.out.row, hd⟩, two_turned H1.out.2⟩
/-- What Open refuses. -/
def badOpen (s c : Nat) : Bool := decide (s = 0) || decide (4611686018427387904 < s) || decide (c = 0) || decide (128 ≤ c)
set_option maxRecDepth 100000 in
theorem dopen_ok (p g n last : Nat) (Dm : Nat → Option OpR) (s : Nat) (x : ByteArray) (c : Nat) (hbad : badOpen s c = false) (hl : last < s) (hc : c < 256) (hn : n < 100000) (w : World) (h : DeskAt w p g n Dm last) :
    Calls Try.prog 11 #[.pointer (some ⟨p, 0, none⟩), .int .u64 (s : Int), .string x, .int .u8 (c : Int)] w fun e w' => e = .returned (.int .i64 0) ∧ DeskAt w' p g (n + 1) (updD Dm s (some ⟨x, c, 0⟩)) s ∧ ButTwo p g w w' := by
  obtain ⟨c0, c1⟩ := h.cells
  have H := Lib.hid h
  unfold badOpen at hbad
  simp only [Bool.or_eq_false_iff, decide_eq_false_iff_not] at hbad
  obtain ⟨⟨⟨b1, b2⟩, b3⟩, b4⟩ := hbad
  have hk := key_ku (s := s) (by omega)
  have e1 : ((s : Int) == 0) = false := by rw [beq_eq_false_iff_ne]; omega
  have e2 : ((4611686018427387904 : Int) < (s : Int)) = False := by rw [eq_iff_iff, iff_false]; omega
  have e3 : ((c : Int) == 0) = false := by rw [beq_eq_false_iff_ne]; omega
  have e4 : ¬ (s : Int) ≤ (last : Int) := by omega
  have e5 : ((c : Int) / 128 != 0) = false := by rw [bne_eq_false_iff_eq]; omega
  have Hn := Lib.hid hn
  clear h b1 b2 b3 b4 hl hn
  go_enter Try.func11, Try.ntmps11
  go_upto_region 8 with (at_mapUpdate; refine wpList_store_mp rfl _ _ _ 65 63 rfl lawU Try.underlying65 rfl H.out.mp (by have := Hn.out; unfold maxLen; omega) _ (opV s ⟨x, c, 0⟩) (ku s) rfl rfl hk ?_; intro w1 hm1 ht1; have H1 := Lib.hid (And.intro hm1 ht1); clear hm1 ht1)
  have hr1 := (turned_block H1.out.2 H.out.ne).trans H.out.row
  have f1 : w1.cell? ⟨p, 1, none⟩ = some (.int .u64 (last : Int)) := cell_of_row _ _ _ _ _ _ hr1
  have t1 := thawed_row 1 hr1
  have Hr1 := Lib.hid hr1
  clear hr1 c0 c1
  go_wp2_with fail
  go_ret
  have hd := H1.out.1
  rw [mpOf_put] at hd
  refine ⟨rfl, ⟨?_, hd.stay (Below.heap_setCell _ _ _ _ (fun e => H.out.ne e.symm))⟩, (two_turned H1.out.2).trans (two_cell _)⟩
  rw [heap_setCell_same _ _ _ _ _ _ Hr1.out]
  rfl
set_option maxRecDepth 100000 in
theorem dopen_bad (p g n last : Nat) (Dm : Nat → Option OpR) (s : Nat) (x : ByteArray) (c : Nat) (hbad : badOpen s c = true) (w : World) (_h : DeskAt w p g n Dm last) :
    Calls Try.prog 11 #[.pointer (some ⟨p, 0, none⟩), .int .u64 (s : Int), .string x, .int .u8 (c : Int)] w fun e w' => e = .returned (.int .i64 2) ∧ Below w.heap.size w w' := by
  unfold badOpen at hbad
  by_cases b1 : s = 0
  · subst b1
    clear hbad
    go_enter Try.func11, Try.ntmps11
    go_wp2_with fail
    go_ret
    exact ⟨rfl, Below.refl _ _⟩
  · have e1 : ((s : Int) == 0) = false := by rw [beq_eq_false_iff_ne]; omega
    by_cases b2 : 4611686018427387904 < s
    · have e2 : ((4611686018427387904 : Int) < (s : Int)) = True := by rw [eq_iff_iff, iff_true]; omega
      clear hbad b2 b1
      go_enter Try.func11, Try.ntmps11
      go_wp2_with fail
      go_ret
      exact ⟨rfl, Below.refl _ _⟩
    · have e2 : ((4611686018427387904 : Int) < (s : Int)) = False := by rw [eq_iff_iff, iff_false]; omega
      by_cases b3 : c = 0
      · subst b3
        clear hbad b2 b1
        go_enter Try.func11, Try.ntmps11
        go_wp2_with fail
        go_ret
        exact ⟨rfl, Below.refl _ _⟩
      · have b4 : 128 ≤ c := by simpa [b1, b2, b3] using hbad
        have e3 : ((c : Int) == 0) = false := by rw [beq_eq_false_iff_ne]; omega
        have e5 : ((c : Int) / 128 != 0) = true := by rw [bne_iff_ne]; omega
        clear hbad b2 b1 b3 b4
        go_enter Try.func11, Try.ntmps11
        go_wp2_with fail
        go_ret
        exact ⟨rfl, Below.refl _ _⟩
set_option maxRecDepth 100000 in
theorem dopen_state (p g n last : Nat) (Dm : Nat → Option OpR) (s : Nat) (x : ByteArray) (c : Nat) (hbad : badOpen s c = false) (hl : s ≤ last) (w : World) (h : DeskAt w p g n Dm last) :
    Calls Try.prog 11 #[.pointer (some ⟨p, 0, none⟩), .int .u64 (s : Int), .string x, .int .u8 (c : Int)] w fun e w' => e = .returned (.int .i64 13) ∧ Below w.heap.size w w' := by
  obtain ⟨c0, c1⟩ := h.cells
  unfold badOpen at hbad
  simp only [Bool.or_eq_false_iff, decide_eq_false_iff_not] at hbad
  obtain ⟨⟨⟨b1, b2⟩, b3⟩, b4⟩ := hbad
  have e1 : ((s : Int) == 0) = false := by rw [beq_eq_false_iff_ne]; omega
  have e2 : ((4611686018427387904 : Int) < (s : Int)) = False := by rw [eq_iff_iff, iff_false]; omega
  have e3 : ((c : Int) == 0) = false := by rw [beq_eq_false_iff_ne]; omega
  have e4 : (s : Int) ≤ (last : Int) := by omega
  have e5 : ((c : Int) / 128 != 0) = false := by rw [bne_eq_false_iff_eq]; omega
  clear h b1 b2 b3 b4 hl
  go_enter Try.func11, Try.ntmps11
  go_wp2_with fail
  go_ret
  exact ⟨rfl, Below.refl _ _⟩
end Go.Proofs.Ytoleiiicbnmhpaa
