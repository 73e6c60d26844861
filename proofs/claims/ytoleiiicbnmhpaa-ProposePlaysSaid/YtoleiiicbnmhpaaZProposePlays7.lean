/- The sort of keys: the sort itself. Condition: the row lies there. -/
import Derived.Sort.Walk13a
import Derived.Sort.LotC
import Derived.Test.YtoleiiicbnmhpaaZProposePlays6
import Derived.Test.YtoleiiicbnmhpaaZProposePlays3
import Derived.Test.YtoleiiicbnmhpaaZProposePlays4
import Derived.Test.YtoleiiicbnmhpaaZProposePlays1
namespace Go.Proofs.Ytoleiiicbnmhpaa
open Go.RowKit Go.Sort
/-- The world of w, but for its row, which is c, and for what was made since. -/
def SrtAt (w : World) (b : Nat) (c : Array Int) (wr : World) : Prop := RowKit.Below w.heap.size (rw64 w 0 b c) wr
theorem rw_hsize (w : World) (n b : Nat) (c : Array Int) : (rw64 w n b c).heap.size = w.heap.size := by
  show (mapBlock _ _ _).heap.size = _
  unfold mapBlock
  simp only [Array.size_modify]
  rfl
section
variable {w wr w1 : World} {b L cap x y : Nat} {c c' d0 : Array Int}
theorem SrtAt.refl (h : R64 w b c) : SrtAt w b c w := by
  unfold SrtAt
  rw [← rw_new h]
  exact RowKit.Below.refl _ _
theorem SrtAt.hsize (h : SrtAt w b c wr) : w.heap.size ≤ wr.heap.size := by
  have := RowKit.Below.size h
  rwa [rw_hsize] at this
theorem SrtAt.row (h : SrtAt w b c wr) (h0 : R64 w b d0) (hs : c.size = d0.size) (hb : b < w.heap.size) : R64 wr b c := (rw_holds h0 0 hs).below hb h
theorem SrtAt.step (h : SrtAt w b c wr) (hs : c'.size = c.size) (h1 : ∃ n, w1 = rw64 wr n b c') : SrtAt w b c' w1 := by
  obtain ⟨n, rfl⟩ := h1
  exact rw_step h n hs
theorem SrtAt.stepG (h : SrtAt w b c wr) (hs : c'.size = c.size) (h1 : RowKit.Below wr.heap.size (rw64 wr 0 b c') w1) : SrtAt w b c' w1 := (h.step hs ⟨0, rfl⟩).trans (h1.mono h.hsize)
theorem SrtAt.same (h : SrtAt w b c wr) (h1 : RowKit.Below wr.heap.size wr w1) : SrtAt w b c w1 := RowKit.Below.trans h (h1.mono h.hsize)
theorem SrtAt.draw (h : SrtAt w b c wr) (q : Nat) : SrtAt w b c (wr.drewN q) := RowKit.Below.trans h ⟨rfl, rfl, rfl, Nat.le_refl _, fun _ _ => rfl⟩
theorem swo64 : SWO ltInt := swo_ltInt
theorem pdq_plain : pdq_stmt ltInt := pdq_holds insertionSort_holds heapSort_holds partialInsertionSort_holds (partition_holds _) (partitionEqual_holds _) reverseRange_holds
theorem s_ins (h : SrtAt w b c wr) (h0 : R64 w b d0) (hs0 : d0.size = L) (hs : c.size = L) (hb : b < w.heap.size) (hxy : x ≤ y) (hy : y ≤ L) (hz : L < 1152921504606846976) :
    Calls Try.prog 41 #[.slice (some ⟨b, 0, none⟩) L cap, .int .i64 (x : Int), .int .i64 (y : Int)] wr fun e w' => e = .returned (.tuple #[]) ∧ SrtAt w b (insertionSort ltInt c x y) w' := by
  have q := ins64 b cap x y c wr (h.row h0 (hs.trans hs0.symm) hb) hxy (by omega) (by omega)
  rw [hs] at q
  refine q.mono ?_
  rintro e w' ⟨rfl, h1⟩
  exact ⟨rfl, h.step (insertionSort_holds swo64 c x y hxy (by omega)).1.1 h1⟩
theorem s_heap (h : SrtAt w b c wr) (h0 : R64 w b d0) (hs0 : d0.size = L) (hs : c.size = L) (hb : b < w.heap.size) (hxy : x < y) (hy : y ≤ L) (hz : L < 1152921504606846976) :
    Calls Try.prog 42 #[.slice (some ⟨b, 0, none⟩) L cap, .int .i64 (x : Int), .int .i64 (y : Int)] wr fun e w' => e = .returned (.tuple #[]) ∧ SrtAt w b (heapSort ltInt c x y) w' := by
  have q := heap64 b cap x y c wr (h.row h0 (hs.trans hs0.symm) hb) hxy (by omega) (by omega)
  rw [hs] at q
  refine q.mono ?_
  rintro e w' ⟨rfl, h1⟩
  exact ⟨rfl, h.step (heapSort_holds swo64 c x y (by omega) (by omega)).1.1 h1⟩
theorem s_brk (h : SrtAt w b c wr) (h0 : R64 w b d0) (hs0 : d0.size = L) (hs : c.size = L) (hb : b < w.heap.size) (hxy : x + 12 < y) (hy : y ≤ L) (hz : L < 1152921504606846976) :
    Calls Try.prog 43 #[.slice (some ⟨b, 0, none⟩) L cap, .int .i64 (x : Int), .int .i64 (y : Int)] wr fun e w' => e = .returned (.tuple #[]) ∧ SrtAt w b (breakPatterns c x y) w' := by
  refine (brk64 b cap L x y c wr hs (h.row h0 (hs.trans hs0.symm) hb) (Nat.lt_of_lt_of_le hb h.hsize) hxy hy hz).mono ?_
  rintro e w' ⟨rfl, h1⟩
  exact ⟨rfl, h.stepG (breakPatterns_holds c x y (by omega) (by omega)).1 h1⟩
theorem s_piv (h : SrtAt w b c wr) (h0 : R64 w b d0) (hs0 : d0.size = L) (hs : c.size = L) (hb : b < w.heap.size) (hxy : x + 12 < y) (hy : y ≤ L) (hz : L < 1152921504606846976) :
    Calls Try.prog 44 #[.slice (some ⟨b, 0, none⟩) L cap, .int .i64 (x : Int), .int .i64 (y : Int)] wr fun e w' => e = .returned (.tuple #[.int .i64 ((choosePivot ltInt c x y).1 : Int), .int .i64 (hintCode (choosePivot ltInt c x y).2)]) ∧ SrtAt w b c w' := by
  refine (piv64 b cap L x y c wr hs (h.row h0 (hs.trans hs0.symm) hb) (Nat.lt_of_lt_of_le hb h.hsize) hxy hy hz).mono ?_
  rintro e w' ⟨rfl, h1⟩
  exact ⟨rfl, h.same h1⟩
theorem s_rev (h : SrtAt w b c wr) (h0 : R64 w b d0) (hs0 : d0.size = L) (hs : c.size = L) (hb : b < w.heap.size) (hxy : x < y) (hy : y ≤ L) (hz : L < 1152921504606846976) :
    Calls Try.prog 45 #[.slice (some ⟨b, 0, none⟩) L cap, .int .i64 (x : Int), .int .i64 (y : Int)] wr fun e w' => e = .returned (.tuple #[]) ∧ SrtAt w b (reverseRange c x y) w' := by
  have q := rev64 b cap x y c wr (h.row h0 (hs.trans hs0.symm) hb) hxy (by omega) (by omega)
  rw [hs] at q
  refine q.mono ?_
  rintro e w' ⟨rfl, h1⟩
  exact ⟨rfl, h.step (reverseRange_holds c x y (by omega) (by omega)).1 h1⟩
theorem s_part (h : SrtAt w b c wr) (h0 : R64 w b d0) (hs0 : d0.size = L) (hs : c.size = L) (hb : b < w.heap.size) (hxy : x + 12 < y) (hy : y ≤ L) (hz : L < 1152921504606846976) (hB : Go.Sort.Below ltInt x y c) :
    Calls Try.prog 46 #[.slice (some ⟨b, 0, none⟩) L cap, .int .i64 (x : Int), .int .i64 (y : Int)] wr fun e w' => e = .returned (.bool (partialInsertionSort ltInt c x y).2) ∧ SrtAt w b (partialInsertionSort ltInt c x y).1 w' := by
  refine (part64 b cap L x y c wr hs (h.row h0 (hs.trans hs0.symm) hb) hxy hy hz).mono ?_
  rintro e w' ⟨rfl, h1⟩
  exact ⟨rfl, h.step (partialInsertionSort_holds swo64 c x y (by omega) (by omega) hB).1.1 h1⟩
theorem s_peq {p : Nat} (h : SrtAt w b c wr) (h0 : R64 w b d0) (hs0 : d0.size = L) (hs : c.size = L) (hb : b < w.heap.size) (hxp : x ≤ p) (hpy : p < y) (hxy : x + 12 < y) (hy : y ≤ L) (hz : L < 1152921504606846976) (hge : (partitionEqual ltInt c x y p).2.size = c.size) :
    Calls Try.prog 48 #[.slice (some ⟨b, 0, none⟩) L cap, .int .i64 (x : Int), .int .i64 (y : Int), .int .i64 (p : Int)] wr fun e w' => e = .returned (.int .i64 ((partitionEqual ltInt c x y p).1 : Int)) ∧ SrtAt w b (partitionEqual ltInt c x y p).2 w' := by
  refine (peq64 b cap L x y p c wr hs (h.row h0 (hs.trans hs0.symm) hb) hxp hpy (by omega) hy hz).mono ?_
  rintro e w' ⟨rfl, h1⟩
  exact ⟨rfl, h.step hge h1⟩
theorem s_prt {p : Nat} (h : SrtAt w b c wr) (h0 : R64 w b d0) (hs0 : d0.size = L) (hs : c.size = L) (hb : b < w.heap.size) (hxp : x ≤ p) (hpy : p < y) (hxy : x + 12 < y) (hy : y ≤ L) (hz : L < 1152921504606846976) :
    Calls Try.prog 49 #[.slice (some ⟨b, 0, none⟩) L cap, .int .i64 (x : Int), .int .i64 (y : Int), .int .i64 (p : Int)] wr fun e w' => e = .returned (.tuple #[.int .i64 ((partition ltInt c x y p).1 : Int), .bool (partition ltInt c x y p).2.1]) ∧ SrtAt w b (partition ltInt c x y p).2.2 w' := by
  refine (prt64 b cap L x y p c wr hs (h.row h0 (hs.trans hs0.symm) hb) hxp hpy (by omega) hy hz).mono ?_
  rintro e w' ⟨rfl, h1⟩
  exact ⟨rfl, h.step (partition_holds _ swo64 c x y p hxp hpy (by omega)).2.2.1.1 h1⟩
end
set_option maxRecDepth 100000 in
set_option maxHeartbeats 16000000 in
theorem pdq64 : ∀ (N b cap L x y lim : Nat) (d : Array Int) (w : World), y - x < N → d.size = L → R64 w b d → b < w.heap.size → x ≤ y → y ≤ L → L < 1152921504606846976 → lim < 1152921504606846976 → Go.Sort.Below ltInt x y d →
    Calls Try.prog 39 #[.slice (some ⟨b, 0, none⟩) L cap, .int .i64 (x : Int), .int .i64 (y : Int), .int .i64 (lim : Int)] w fun e w' => e = .returned (.tuple #[]) ∧ SrtAt w b (pdq ltInt d x y lim true true) w' := by
  intro N
  induction N with
  | zero => intro _ _ _ _ _ _ _ _ h; exact absurd h (Nat.not_lt_zero _)
  | succ N ih =>
    intro b cap L x y lim d w hN hL hR hb hxy hy hz hlim hB0
    have HIH := Lib.hid ih
    have HR := Lib.hid hR
    have HZ := Lib.hid hz
    obtain ⟨goal, hgoal⟩ : ∃ g, g = pdq ltInt d x y lim true true := ⟨_, rfl⟩
    rw [← hgoal]
    have HGL := Lib.hid hgoal
    have HB0 := Lib.hid hB0
    clear hgoal ih hR hz hB0
    go_enter Try.func39, Try.ntmps39
    go_upto_region 2 with fail
    go_loopw [1, 2, 3, 8, 9] (fun s1 s2 s3 s8 s9 wr => ∃ (x' y' li : Nat) (wb wp : Bool) (c : Array Int), s1 = .int .i64 (x' : Int) ∧ s2 = .int .i64 (y' : Int) ∧ s3 = .int .i64 (li : Int) ∧ s8 = .bool wb ∧ s9 = .bool wp ∧ (x' ≤ y' ∧ y' ≤ L ∧ y' - x' ≤ y - x ∧ li ≤ lim) ∧ c.size = L ∧ Hid (Go.Sort.Below ltInt x' y' c) ∧ SrtAt w b c wr ∧ pdq ltInt c x' y' li wb wp = goal) (fun s1 s2 _ _ _ _ => (intOf s2 - intOf s1).toNat)
    case atStart => exact ⟨x, y, lim, true, true, d, rfl, rfl, rfl, rfl, rfl, by omega, hL, HB0.out, SrtAt.refl HR.out, HGL.out.symm⟩
    case round =>
      obtain ⟨x', y', li, wb, wp, c, rfl, rfl, rfl, rfl, rfl, hr, hc, HB, hA, ho⟩ := hrel
      have HO := Lib.hid ho
      have HA := Lib.hid hA
      clear ho hA
      have b1 : x' < 1152921504606846976 := by have := HZ.out; omega
      have b2 : y' < 1152921504606846976 := by have := HZ.out; omega
      have b3 : li < 1152921504606846976 := by omega
      by_cases h12 : y' - x' ≤ 12
      · have h12z : (y' : Int) - (x' : Int) ≤ 12 := by omega
        have HC := Lib.hid (s_ins (cap := cap) HA.out HR.out hL hc hb hr.1 hr.2.1 HZ.out)
        go_wp2_with ((with_reducible refine HC.out.mono ?_); rintro e w1 ⟨rfl, hw1⟩)
        refine bodyPost_ret (results_none rfl _ _ _) rfl ?_
        refine ⟨rfl, ?_⟩
        rw [← HO.out, pdq_small h12]
        exact hw1
      · have h12z : ¬ (y' : Int) - (x' : Int) ≤ 12 := by omega
        have h12w : 12 + (x' : Int) < (y' : Int) := by omega
        by_cases hl0 : li = 0
        · subst hl0
          have HC := Lib.hid (s_heap (cap := cap) HA.out HR.out hL hc hb (show x' < y' by omega) hr.2.1 HZ.out)
          go_wp2_with ((with_reducible refine HC.out.mono ?_); rintro e w1 ⟨rfl, hw1⟩)
          refine bodyPost_ret (results_none rfl _ _ _) rfl ?_
          refine ⟨rfl, ?_⟩
          rw [← HO.out, pdq_heap h12 rfl]
          exact hw1
        · have hl0z : ((li : Int) == 0) = false := by simp; omega
          have hf := rd_facts (limit := li) (wb := wb) (wp := wp) swo64 partialInsertionSort_holds reverseRange_holds (show x' < y' by omega) (show y' ≤ c.size by omega) HB
          have hf1 : wb = false → (rd ltInt c x' y' li wb wp).d1 = breakPatterns c x' y' ∧ (rd ltInt c x' y' li wb wp).lim = li - 1 := fun h => by subst h; exact rd_false
          have hf2 : wb = true → (rd ltInt c x' y' li wb wp).d1 = c ∧ (rd ltInt c x' y' li wb wp).lim = li := fun h => by subst h; exact rd_true
          have hf3 : (rd ltInt c x' y' li wb wp).c = choosePivot ltInt (rd ltInt c x' y' li wb wp).d1 x' y' := rd_c
          have hf4 := @rd_dec _ _ ltInt c x' y' li wb wp
          have hf5 := @rd_not _ _ ltInt c x' y' li wb wp
          have hf6 := @rd_pi_yes _ _ ltInt c x' y' li wb wp
          have hf7 := @rd_pi_no _ _ ltInt c x' y' li wb wp
          have hf8 := @pdq_done _ _ ltInt c x' y' li wb wp h12 hl0
          have hf9 := @pdq_eq _ _ ltInt c x' y' li wb wp h12 hl0
          have hfa := @pdq_left _ _ ltInt c x' y' li wb wp h12 hl0
          have hfb := @pdq_right _ _ ltInt c x' y' li wb wp h12 hl0
          have hfc : (rd ltInt c x' y' li wb wp).lim ≤ li := rd_lim_le
          rw [HO.out] at hf8 hf9 hfa hfb
          generalize rd ltInt c x' y' li wb wp = R at hf hf1 hf2 hf3 hf4 hf5 hf6 hf7 hf8 hf9 hfa hfb hfc
          obtain ⟨d1, lm, cv, d2, pv, hint, pi⟩ := R
          obtain ⟨p1, p2⟩ := pi
          simp only at hf hf1 hf2 hf3 hf4 hf5 hf6 hf7 hf8 hf9 hfa hfb hfc
          obtain ⟨fs1, fB1, fc1, fs2, fB2, fpv, fs3, fB3⟩ := hf
          rw [hc] at fs1 fs2 fs3
          have F1 := Lib.hid hf1
          have F2 := Lib.hid hf2
          have F3 := Lib.hid hf3
          have F4 := Lib.hid hf4
          have F5 := Lib.hid hf5
          have F6 := Lib.hid hf6
          have F7 := Lib.hid hf7
          have F8 := Lib.hid hf8
          have F9 := Lib.hid hf9
          have FA := Lib.hid hfa
          have FB := Lib.hid hfb
          have FS := Lib.hid (And.intro fs1 (And.intro fs2 fs3))
          have FBB := Lib.hid (And.intro fB1 (And.intro fB2 fB3))
          have FH12 := Lib.hid h12
          clear hf1 hf2 hf3 hf4 hf5 hf6 hf7 hf8 hf9 hfa hfb fs1 fs2 fs3 fB1 fB2 fB3 HO h12
          have bl : lm < 1152921504606846976 := by omega
          go_upto_if 35 with fail
          go_cut [3] (fun s3 wx => s3 = .int .i64 (lm : Int) ∧ SrtAt w b d1 wx)
          case first =>
            cases wb
            · have HC := Lib.hid (s_brk (cap := cap) HA.out HR.out hL hc hb (show x' + 12 < y' by have := FH12.out; omega) hr.2.1 HZ.out)
              have G1 := Lib.hid (F1.out rfl)
              have hlm := G1.out.2
              have hli : (li : Int) - 1 = (lm : Int) := by omega
              clear hlm
              go_wp2_with ((with_reducible refine HC.out.mono ?_); rintro e w1 ⟨rfl, hw1⟩; have HW1 := Lib.hid hw1; clear hw1)
              go_meet
              exact ⟨rfl, by rw [G1.out.1]; exact HW1.out⟩
            · have G1 := Lib.hid (F2.out rfl)
              go_wp2_with fail
              go_meet
              exact ⟨by rw [G1.out.2], by rw [G1.out.1]; exact HA.out⟩
          case rest =>
          obtain ⟨rfl, hA1⟩ := hcut
          clear HA hl0z hl0
          have HA := Lib.hid hA1
          clear hA1
          have hp := s_piv (cap := cap) HA.out HR.out hL FS.out.1 hb (show x' + 12 < y' by have := FH12.out; omega) hr.2.1 HZ.out
          rw [← F3.out] at hp
          obtain ⟨c1, c2⟩ := cv
          simp only at hp fc1
          obtain ⟨hv, hhv⟩ : ∃ v, v = hintCode c2 := ⟨_, rfl⟩
          rw [← hhv] at hp
          have HHV := Lib.hid hhv
          have HP := Lib.hid hp
          clear hp hhv
          go_upto_if 50 with ((with_reducible refine HP.out.mono ?_); rintro e w2 ⟨rfl, hw2⟩; have HA2 := Lib.hid hw2; clear hw2)
          clear HA HP
          go_cut [11, 12] (fun s11 s12 wx => s11 = .int .i64 (pv : Int) ∧ s12 = .int .i64 (hintCode hint) ∧ SrtAt w b d2 wx)
          case first =>
            by_cases hh : c2 = .decreasing
            · have G1 := Lib.hid (F4.out hh)
              have hv2 : hv = 2 := by rw [HHV.out, hh]; rfl
              subst hv2
              have HC := Lib.hid (s_rev (cap := cap) HA2.out HR.out hL FS.out.1 hb (show x' < y' by have := FH12.out; omega) hr.2.1 HZ.out)
              have ev : (y' : Int) - 1 - ((c1 : Int) - (x' : Int)) = (pv : Int) := by have := G1.out.2.1; have := FH12.out; omega
              go_wp2_with ((with_reducible refine HC.out.mono ?_); rintro e w3 ⟨rfl, hw3⟩; have HW1 := Lib.hid hw3; clear hw3)
              go_meet
              refine ⟨?_, by rw [G1.out.2.2]; rfl, by rw [G1.out.1]; exact HW1.out⟩
              first | rfl | (rw [← ev])
            · have G1 := Lib.hid (F5.out hh)
              have hv2 : (hv == 2) = false := by
                rw [HHV.out]
                cases c2 with
                | unknown => rfl
                | increasing => rfl
                | decreasing => exact absurd rfl hh
              go_wp2_with fail
              go_meet
              exact ⟨by rw [G1.out.2.1], by rw [G1.out.2.2, HHV.out], by rw [G1.out.1]; exact HA2.out⟩
          case rest =>
          obtain ⟨rfl, rfl, hA3⟩ := hcut
          clear HA2 HHV
          have HA := Lib.hid hA3
          clear hA3
          obtain ⟨B, hB⟩ : ∃ B : Bool, B = (wb && wp && decide (hint = Hint.increasing)) := ⟨_, rfl⟩
          have HB2 := Lib.hid hB
          clear hB
          go_upto_region 15 with fail
          go_cut [12, 68] (fun s12 s68 wx => s12 = .int .i64 (hintCode hint) ∧ s68 = .bool B ∧ wx = wc)
          case first =>
            cases wb <;> cases wp <;> cases hint
            all_goals (go_wp2_with fail; try go_region; all_goals go_wp2_with fail)
            all_goals go_meet
            all_goals exact ⟨rfl, by rw [HB2.out]; rfl, rfl⟩
          case rest =>
          obtain ⟨rfl, rfl, rfl⟩ := hcut
          clear F1 F2 F3 F4 F5 HB
          go_upto_if 68 with fail
          go_cut [68] (fun _ wx => SrtAt w b p1 wx ∧ p2 = false)
          case first =>
            cases B
            · have G1 := Lib.hid (F7.out HB2.out.symm)
              go_wp2_with fail
              go_meet
              have e1 : p1 = d2 := congrArg Prod.fst G1.out
              have e2 : p2 = false := congrArg Prod.snd G1.out
              rw [e1]
              exact ⟨HA.out, e2⟩
            · have G1 := F6.out HB2.out.symm
              have hp := s_part (cap := cap) HA.out HR.out hL FS.out.2.1 hb (show x' + 12 < y' by have := FH12.out; omega) hr.2.1 HZ.out FBB.out.2.1
              rw [← G1] at hp
              simp only at hp
              have HP := Lib.hid hp
              clear hp G1
              cases p2
              · go_wp2_with ((with_reducible refine HP.out.mono ?_); rintro e w3 ⟨rfl, hw3⟩; have HW1 := Lib.hid hw3; clear hw3)
                go_meet
                exact ⟨HW1.out, by first | rfl | trivial⟩
              · have G8 := Lib.hid (F8.out rfl)
                go_wp2_with ((with_reducible refine HP.out.mono ?_); rintro e w3 ⟨rfl, hw3⟩; have HW1 := Lib.hid hw3; clear hw3)
                refine bodyPost_ret (results_none rfl _ _ _) rfl ?_
                exact ⟨rfl, by rw [G8.out]; exact HW1.out⟩
          case rest =>
          obtain ⟨hA4, hp2⟩ := hcut
          subst hp2
          clear HA HB2 F6 F7 F8
          have HA := Lib.hid hA4
          clear hA4
          have hrow := HA.out.row HR.out (by have := FS.out.2.2; omega) hb
          obtain ⟨T, hT⟩ : ∃ T : Bool, T = (decide (x' > 0) && !ltInt p1[x' - 1]! p1[pv]!) := ⟨_, rfl⟩
          have hf9 := F9.out rfl
          have hfa := FA.out rfl
          have hfb := FB.out rfl
          rw [← hT] at hf9 hfa hfb
          have F9' := Lib.hid hf9
          have FA' := Lib.hid hfa
          have FB' := Lib.hid hfb
          have HT := Lib.hid hT
          have HROW := Lib.hid hrow
          clear hf9 hfa hfb hT hrow F9 FA FB
          have hFS := FS.out.2.2
          go_upto_region 17 with fail
          go_cut [87] (fun s87 wx => s87 = .bool T ∧ SrtAt w b p1 wx)
          case first =>
            by_cases hx0 : 0 < x'
            · have hx0' : (0 : Int) < (x' : Int) := by omega
              have c8 : wc.cell? ⟨b, x' - 1, none⟩ = some (.int .u64 p1[x' - 1]!) := by have q := (HROW.out (x' - 1) (by omega)).1; rwa [Nat.zero_add] at q
              have c9 : wc.cell? ⟨b, pv, none⟩ = some (.int .u64 p1[pv]!) := by have q := (HROW.out pv (by omega)).1; rwa [Nat.zero_add] at q
              obtain ⟨v8, hv8⟩ : ∃ v, v = p1[x' - 1]! := ⟨_, rfl⟩
              obtain ⟨v9, hv9⟩ : ∃ v, v = p1[pv]! := ⟨_, rfl⟩
              have HTT := Lib.hid (show T = !ltInt v8 v9 by rw [HT.out, hv8, hv9]; simp [hx0])
              rw [← hv8] at c8
              rw [← hv9] at c9
              clear hv8 hv9
              cases hl : ltInt v8 v9
              all_goals
                go_wp2_with fail
                go_quiet (first | (go_at_call 47; exact Calls.quiet_of_same (less_any _ _ _)))
                go_wp2_with fail
                go_meet
                exact ⟨by rw [HTT.out, hl]; rfl, HA.out.draw _⟩
            · have hx0' : ¬ (0 : Int) < (x' : Int) := by omega
              have hxz : x' = 0 := by omega
              have HTT := Lib.hid (show T = false by rw [HT.out, hxz]; rfl)
              clear hxz
              go_wp2_with fail
              go_quiet (first | (go_at_call 47; exact Calls.quiet_of_same (less_any _ _ _)))
              go_wp2_with fail
              go_meet
              exact ⟨by rw [HTT.out], HA.out.draw _⟩
          case rest =>
          obtain ⟨rfl, hA5⟩ := hcut
          clear HA HROW
          have HA := Lib.hid hA5
          clear hA5
          cases T
          · obtain ⟨E, hE⟩ : ∃ E, E = partition ltInt p1 x' y' pv := ⟨_, rfl⟩
            have hcall := s_prt (cap := cap) HA.out HR.out hL FS.out.2.2 hb fpv.1 fpv.2 (show x' + 12 < y' by have := FH12.out; omega) hr.2.1 HZ.out
            rw [← hE] at hcall
            obtain ⟨mid, ap, d4⟩ := E
            obtain ⟨hr1, hr2, hr3, hr4, hr5, hr6, hr7⟩ := round_part swo64 (partition_holds _) fpv.1 fpv.2 (by omega : y' ≤ p1.size) FBB.out.2.2 hE.symm
            simp only at hcall
            have HC := Lib.hid hcall
            clear hcall
            obtain ⟨t8, ht8⟩ : ∃ t : Nat, t = (y' - x') / 8 := ⟨_, rfl⟩
            have he8 : ((y' : Int) - (x' : Int)).tdiv 8 = (t8 : Int) := by rw [Int.tdiv_eq_ediv_of_nonneg (by omega)]; omega
            have bm : mid < 1152921504606846976 := by omega
            have b8 : t8 < 1152921504606846976 := by omega
            by_cases hlr : mid - x' < y' - mid
            · have hlr' : (mid : Int) - (x' : Int) < (y' : Int) - (mid : Int) := by omega
              have hb8 : decide ((t8 : Int) ≤ (mid : Int) - (x' : Int)) = decide (mid - x' ≥ (y' - x') / 8) := decide_eq_decide.2 ⟨fun h => by omega, fun h => by omega⟩
              have hpp := pdq_plain swo64 d4 (x') (mid) lm true true (by omega) (by omega) hr4
              have hnx := (hr6 _ hpp.1 hpp.2).1
              have hg := FA'.out rfl
              rw [← hE] at hg
              have hg2 := hg ⟨hr1, hr2⟩ hlr
              have hsz : (pdq ltInt d4 (x') (mid) lm true true).size = d4.size := hpp.1.1
              obtain ⟨Q, hQ⟩ : ∃ Q, Q = pdq ltInt d4 (x') (mid) lm true true := ⟨_, rfl⟩
              simp only at hg2
              rw [← hQ] at hnx hg2 hsz
              rw [← hb8] at hg2
              have HG2 := Lib.hid hg2
              have HNX := Lib.hid hnx
              have HQ := Lib.hid hQ
              have HSZ := Lib.hid (And.intro hsz hr3)
              have HH := Lib.hid (fun (w1 : World) (h1 : SrtAt w b d4 w1) => HIH.out b cap L (x') (mid) lm d4 w1 (by omega) (by omega) (h1.row HR.out (by omega) hb) (Nat.lt_of_lt_of_le hb h1.hsize) (by omega) (by omega) HZ.out bl hr4)
              have E8 := Lib.hid he8
              have HR12 := Lib.hid (And.intro hr1 hr2)
              clear hg hg2 hnx hQ hpp hsz hr3 hr4 hr5 hr6 hr7 hE hb8 ht8
              have hH : ∀ w1 : World, SrtAt w b d4 w1 → Calls Try.prog 39 #[.slice (some ⟨b, 0, none⟩) L cap, .int .i64 (x' : Int), .int .i64 (mid : Int), .int .i64 (lm : Int)] w1 fun e w' => e = .returned (.tuple #[]) ∧ SrtAt w1 b Q w' := by
                intro w1 h1
                have q := HH.out w1 h1
                rw [← HQ.out] at q
                exact q
              have HH2 := Lib.hid hH
              clear hH HH
              go_wp2_with (first | ((with_reducible refine HC.out.mono ?_); rintro e w3 ⟨rfl, hw3⟩; have HW1 := Lib.hid hw3; clear hw3) | ((with_reducible refine (HH2.out _ HW1.out).mono ?_); rintro e w4 ⟨rfl, hw4⟩; have HW2 := Lib.hid hw4; clear hw4))
              exact ⟨⟨mid + 1, y', lm, decide ((t8 : Int) ≤ (mid : Int) - (x' : Int)), ap, Q, rfl, rfl, rfl, rfl, rfl, by have := HR12.out; omega, by have := HSZ.out; omega, HNX.out, HW1.out.stepG HSZ.out.1 HW2.out, HG2.out.symm⟩, by have := HR12.out; simp only [intOf]; omega⟩
            · have hlr' : ¬ (mid : Int) - (x' : Int) < (y' : Int) - (mid : Int) := by omega
              have hb8 : decide ((t8 : Int) ≤ (y' : Int) - (mid : Int)) = decide (y' - mid ≥ (y' - x') / 8) := decide_eq_decide.2 ⟨fun h => by omega, fun h => by omega⟩
              have hpp := pdq_plain swo64 d4 (mid + 1) (y') lm true true (by omega) (by omega) hr5
              have hnx := (hr7 _ hpp.1 hpp.2).1
              have hg := FB'.out rfl
              rw [← hE] at hg
              have hg2 := hg ⟨hr1, hr2⟩ hlr
              have hsz : (pdq ltInt d4 (mid + 1) (y') lm true true).size = d4.size := hpp.1.1
              obtain ⟨Q, hQ⟩ : ∃ Q, Q = pdq ltInt d4 (mid + 1) (y') lm true true := ⟨_, rfl⟩
              simp only at hg2
              rw [← hQ] at hnx hg2 hsz
              rw [← hb8] at hg2
              have HG2 := Lib.hid hg2
              have HNX := Lib.hid hnx
              have HQ := Lib.hid hQ
              have HSZ := Lib.hid (And.intro hsz hr3)
              have HH := Lib.hid (fun (w1 : World) (h1 : SrtAt w b d4 w1) => HIH.out b cap L (mid + 1) (y') lm d4 w1 (by omega) (by omega) (h1.row HR.out (by omega) hb) (Nat.lt_of_lt_of_le hb h1.hsize) (by omega) (by omega) HZ.out bl hr5)
              have E8 := Lib.hid he8
              have HR12 := Lib.hid (And.intro hr1 hr2)
              clear hg hg2 hnx hQ hpp hsz hr3 hr4 hr5 hr6 hr7 hE hb8 ht8
              have hH : ∀ w1 : World, SrtAt w b d4 w1 → Calls Try.prog 39 #[.slice (some ⟨b, 0, none⟩) L cap, .int .i64 ((mid : Int) + 1), .int .i64 (y' : Int), .int .i64 (lm : Int)] w1 fun e w' => e = .returned (.tuple #[]) ∧ SrtAt w1 b Q w' := by
                intro w1 h1
                have q := HH.out w1 h1
                rw [← HQ.out] at q
                exact q
              have HH2 := Lib.hid hH
              clear hH HH
              go_wp2_with (first | ((with_reducible refine HC.out.mono ?_); rintro e w3 ⟨rfl, hw3⟩; have HW1 := Lib.hid hw3; clear hw3) | ((with_reducible refine (HH2.out _ HW1.out).mono ?_); rintro e w4 ⟨rfl, hw4⟩; have HW2 := Lib.hid hw4; clear hw4))
              exact ⟨⟨x', mid, lm, decide ((t8 : Int) ≤ (y' : Int) - (mid : Int)), ap, Q, rfl, rfl, rfl, rfl, rfl, by have := HR12.out; omega, by have := HSZ.out; omega, HNX.out, HW1.out.stepG HSZ.out.1 HW2.out, HG2.out.symm⟩, by have := HR12.out; simp only [intOf]; omega⟩
          · have hx0 : 0 < x' ∧ ltInt p1[x' - 1]! p1[pv]! = false := by simpa using HT.out.symm
            obtain ⟨E, hE⟩ : ∃ E, E = partitionEqual ltInt p1 x' y' pv := ⟨_, rfl⟩
            obtain ⟨mid, d4⟩ := E
            obtain ⟨hr1, hr2, hr3, hr4, _⟩ := round_eq swo64 (partitionEqual_holds _) hx0.1 fpv.1 fpv.2 (by omega : y' ≤ p1.size) FBB.out.2.2 hx0.2 hE.symm
            have hcall := s_peq (cap := cap) HA.out HR.out hL FS.out.2.2 hb fpv.1 fpv.2 (show x' + 12 < y' by have := FH12.out; omega) hr.2.1 HZ.out (by rw [← hE]; exact hr3)
            have hg := F9'.out rfl
            rw [← hE] at hcall hg
            have HG2 := Lib.hid (hg ⟨hr1, hr2⟩)
            simp only at hcall
            have HC := Lib.hid hcall
            have HB4 := Lib.hid hr4
            have HSZ := Lib.hid hr3
            clear hcall hg hx0 hE hr3 hr4
            go_wp2_with ((with_reducible refine HC.out.mono ?_); rintro e w3 ⟨rfl, hw3⟩; have HW1 := Lib.hid hw3; clear hw3)
            exact ⟨⟨mid, y', lm, wb, wp, d4, rfl, rfl, rfl, rfl, rfl, by omega, by have := HSZ.out; omega, HB4.out, HW1.out, HG2.out.symm⟩, by simp only [intOf]; omega⟩
/-- What slices.Sort makes of keys. -/
theorem sort_plain (l : List Int) : ((Go.Sort.sort ltInt l.toArray).toList = l.mergeSort (fun x y => decide (x ≤ y))) := sortInt_holds (sort_holds pdq_plain) l
theorem sorted64 (b cap L : Nat) (d : Array Int) (w : World) (hL : d.size = L) (hR : R64 w b d) (hb : b < w.heap.size) (hz : L < 1152921504606846976) :
    Calls Try.prog 35 #[.slice (some ⟨b, 0, none⟩) L cap] w fun e w' => e = .returned (.tuple #[]) ∧ SrtAt w b (Go.Sort.sort ltInt d) w' := by
  have hl62 : bitsLen L ≤ 62 := (bitsLen_le_iff L 62).2 (by omega)
  have H := pdq64 (L + 1) b cap L 0 L (bitsLen L) d w (by omega) hL hR hb (by omega) (Nat.le_refl _) hz (by omega) (Or.inl rfl)
  rw [show Go.Sort.sort ltInt d = pdq ltInt d 0 L (bitsLen L) true true by rw [Go.Sort.sort, hL]]
  rw [show ((0 : Nat) : Int) = 0 from rfl] at H
  have HH := Lib.hid H
  have HB := Lib.hid (blen2_any L (by omega) w)
  have n0 : IntKind.u64.wrap (L : Int) = (L : Int) := by rw [IntKind.wrap_u64]; omega
  generalize pdq ltInt d 0 L (bitsLen L) true true = R at *
  generalize bitsLen L = k at *
  clear H hR
  go_enter Try.func35, Try.ntmps35
  go_wp2_with (first | ((with_reducible refine HB.out.mono ?_); rintro e w3 ⟨rfl, rfl⟩) | ((with_reducible refine HH.out.mono ?_); rintro e w4 ⟨rfl, hw4⟩; have HW := Lib.hid hw4; clear hw4))
  refine bodyPost_end (results_none rfl _ _ _) rfl ?_
  exact ⟨rfl, HW.out⟩
end Go.Proofs.Ytoleiiicbnmhpaa
namespace Go.Proofs.Ytoleiiicbnmhpaa
open Go.RowKit Go.Maps Go.Shelf
theorem own_r64 {w : World} {g n : Nat} {cur : Array Value} {t : TypeId} {ss : List Int} (hg : w.heap[g]? = some (.cells cur t (0, 0))) (hn : ss.length = n) (ht : cur.toList.take n = ss.map u64v) : R64 w g ss.toArray := by
  intro j hj
  have hj' : j < ss.length := by simpa using hj
  constructor
  · unfold World.cell?
    rw [hg, Nat.zero_add]
    have e1 : (cur.toList.take n)[j]? = some (u64v ss[j]) := by rw [ht, List.getElem?_map, List.getElem?_eq_getElem hj']; rfl
    rw [List.getElem?_take, if_pos (by omega)] at e1
    have e2 : ss.toArray[j]! = ss[j] := by
      rw [getElem!_pos _ j (by simpa using hj')]
      simp
    rw [e2]
    show cur[j]? = _
    rw [← Array.getElem?_toList]
    exact e1
  · unfold World.frozen?
    rw [hg]
    rfl
theorem srt_row {w w3 : World} {g n : Nat} {cur : Array Value} {t : TypeId} {d : Array Int} (hg : w.heap[g]? = some (.cells cur t (0, 0))) (hn : d.size = n) (hc : n ≤ cur.size) (h : SrtAt w g d w3) :
    ∃ cur', w3.heap[g]? = some (.cells cur' t (0, 0)) ∧ cur'.size = cur.size ∧ cur'.toList.take n = d.toList.map u64v := by
  have hlt : g < w.heap.size := (Array.getElem?_eq_some_iff.1 hg).1
  have hb : w3.heap[g]? = (rw64 w 0 g d).heap[g]? := RowKit.Below.block h g hlt
  have hm : (rw64 w 0 g d).heap[g]? = some (.cells (Go.Sort.putCells (Value.int .u64) 0 d cur) t (0, 0)) := by
    show (Go.Sort.mapBlock _ _ _).heap[g]? = _
    unfold Go.Sort.mapBlock
    simp only [Array.getElem?_modify]
    rw [if_pos trivial, show (Go.Sort.ahead w 0).heap[g]? = w.heap[g]? from rfl, hg]
    rfl
  refine ⟨_, hb.trans hm, by simp [Go.Sort.putCells], ?_⟩
  refine List.ext_getElem? fun i => ?_
  by_cases hi : i < n
  · rw [List.getElem?_take, if_pos hi, Array.getElem?_toList, List.getElem?_map]
    have h1 : i < (Go.Sort.putCells (Value.int .u64) 0 d cur).size := by simp [Go.Sort.putCells]; omega
    rw [Array.getElem?_eq_getElem h1, List.getElem?_eq_getElem (by simpa [hn] using hi)]
    simp only [Go.Sort.putCells, Array.getElem_mapIdx, Option.map_some]
    rw [if_pos (by omega), Nat.sub_zero, getElem!_pos d i (by omega)]
    simp
  · rw [List.getElem?_eq_none (by simp; omega), List.getElem?_eq_none (by simp; omega)]
theorem has_key {D : DataW Value} {x : Int} (h : Maps.has D (.int .u64 x) = true) : ∃ l, D = .map l ∧ x ∈ l.filterMap (fun p => match p.1 with | .int _ a => some a | _ => none) := by
  cases D with
  | map l =>
    refine ⟨l, rfl, ?_⟩
    simp only [Maps.has, List.any_eq_true] at h
    obtain ⟨p, hp, hk⟩ := h
    rw [List.mem_filterMap]
    refine ⟨p, hp, ?_⟩
    obtain ⟨k, v⟩ := p
    cases k <;> simp [Lit.sameKey] at hk ⊢
    rw [hk.2]
  | _ => simp [Maps.has] at h
theorem nodup_len {ss l : List Int} (hn : ss.Nodup) (hs : ∀ x ∈ ss, x ∈ l) : ss.length ≤ l.length := by
  induction ss generalizing l with
  | nil => simp
  | cons x r ih =>
    have hx : x ∈ l := hs x (by simp)
    have h1 := ih (List.nodup_cons.1 hn).2 (l := l.erase x) (fun y hy => by
      have hne : y ≠ x := fun e => (List.nodup_cons.1 hn).1 (e ▸ hy)
      exact (List.mem_erase_of_ne hne).2 (hs y (by simp [hy])))
    rw [List.length_erase_of_mem hx] at h1
    have : 0 < l.length := List.length_pos_of_mem hx
    simp
    omega
theorem came_size {D : DataW Value} {ss : List Int} (h : Came D (fun _ => false) ss) : ss.length ≤ Maps.size D := by
  match ss, h with
  | [], _ => exact Nat.zero_le _
  | x :: r, h =>
    obtain ⟨l, rfl, _⟩ := has_key ((h.2 x).1 (by simp)).1
    have hsub : ∀ y ∈ (x :: r), y ∈ l.filterMap (fun p => match p.1 with | .int _ a => some a | _ => none) := fun y hy => by
      obtain ⟨l', e, hm⟩ := has_key ((h.2 y).1 hy).1
      cases e
      exact hm
    have h1 := nodup_len h.1 hsub
    exact Nat.le_trans h1 (List.length_filterMap_le _ _)
/-- The sorted keys. -/
def KeysPostS (D0 : DataW Value) (w : World) (e : Ending) (w' : World) : Prop := ∃ v ss, e = .returned v ∧ (Came D0 (fun _ => false) ss ∧ ss.Pairwise (fun x y => x < y)) ∧ w'.ownsRow w.heap.size 31 1 v ss.length (ss.map u64v) ∧ (v = .slice none 0 0 ↔ ss = []) ∧ Below w.heap.size w w'
theorem came_sorted {D0 : DataW Value} {ss : List Int} (h : Came D0 (fun _ => false) ss) : Came D0 (fun _ => false) (ss.mergeSort (fun x y => decide (x ≤ y))) ∧ (ss.mergeSort (fun x y => decide (x ≤ y))).Pairwise (fun x y => x < y) := by
  have hp := List.mergeSort_perm ss (fun x y => decide (x ≤ y))
  have hs := List.pairwise_mergeSort (le := fun x y : Int => decide (x ≤ y)) (fun a b c h1 h2 => by simp at *; omega) (fun a b => by simp; omega) ss
  have hnd := hp.nodup_iff.2 h.1
  refine ⟨⟨hnd, fun x => (hp.mem_iff).trans (h.2 x)⟩, ?_⟩
  have hnd2 : (ss.mergeSort (fun x y => decide (x ≤ y))).Pairwise (fun x y => x ≠ y) := hnd
  exact (hs.and hnd2).imp fun hh => by
    have h1 := hh.1
    have h2 := hh.2
    simp at h1
    omega
theorem sortedK_any (Bm b nn : Nat) (D0 : DataW Value) (hN : Maps.size D0 ≤ 1000000) (w : World) (hBm : Bm < w.heap.size) (hc : w.cell? ⟨Bm, 0, none⟩ = some (.map (some b))) (hown : w.ownsMap Try.prog 31 Rv b nn D0) :
    Calls Try.prog 27 #[.func (.func 36) #[] #[.pointer (some ⟨Bm, 0, none⟩)]] w (KeysPostS D0 w) := by
  have H := Lib.hid (collect_any Bm b nn D0 hN w hBm hc hown)
  clear hown hc
  go_enter Try.func27, Try.ntmps27
  go_upto_region 2 with ((with_reducible refine H.out.mono ?_); rintro e w2 ⟨v, ss, rfl, h1, h2, h3, h4⟩; have H2 := Lib.hid (And.intro h1 (And.intro h2 (And.intro h3 h4))); clear h1 h2 h3 h4)
  rcases H2.out.2.1.2 with ⟨rfl, h0⟩ | ⟨g, cap, cur, rfl, hbase, hg, hnc, hcm, hcs, ht⟩
  · have hss : ss = [] := List.eq_nil_of_length_eq_zero h0
    subst hss
    have Hs := Lib.hid (sort1_any none 0 0 (by omega) w2)
    go_wp2_with ((with_reducible refine Hs.out.mono ?_); rintro e w3 ⟨rfl, h3⟩; have H3 := Lib.hid h3; clear h3)
    go_ret
    refine ⟨.slice none 0 0, [], rfl, ⟨H2.out.1, List.Pairwise.nil⟩, ⟨rfl, .inl ⟨rfl, rfl⟩⟩, ⟨fun _ => rfl, fun _ => rfl⟩, H2.out.2.2.2.trans (H3.out.mono H2.out.2.2.2.size)⟩
  · rw [Nat.mul_one] at ht hcs
    have hrow := own_r64 hg rfl ht
    have hml := came_size H2.out.1
    have hs := sorted64 g cap ss.length ss.toArray w2 (by simp) hrow (Array.getElem?_eq_some_iff.1 hg).1 (by omega)
    have hne : ss ≠ [] := fun e => by
      have := H2.out.2.2.1.2 e
      cases this
    have Hs := Lib.hid hs
    have HG := Lib.hid (And.intro hg (And.intro hbase (And.intro hnc (And.intro hcm hcs))))
    clear hs hrow hg hbase hnc hcm hcs ht
    go_wp2_with ((with_reducible refine Hs.out.mono ?_); rintro e w3 ⟨rfl, h3⟩; have H3 := Lib.hid h3; clear h3)
    go_ret
    obtain ⟨hg, hbase, hnc, hcm, hcs⟩ := HG.out
    have hpl := sort_plain ss
    have hcs2 := came_sorted H2.out.1
    rw [← hpl] at hcs2
    have hlen : (Go.Sort.sort Go.Sort.ltInt ss.toArray).toList.length = ss.length := by rw [hpl, List.length_mergeSort]
    have hsz : (Go.Sort.sort Go.Sort.ltInt ss.toArray).size = ss.length := by rw [← Array.length_toList]; exact hlen
    obtain ⟨cur', k1, k2, k3⟩ := srt_row hg hsz (by omega) H3.out
    refine ⟨.slice (some ⟨g, 0, none⟩) ss.length cap, (Go.Sort.sort Go.Sort.ltInt ss.toArray).toList, rfl, hcs2, ⟨by simp [hlen], .inr ⟨g, cap, cur', by rw [hlen], hbase, k1, by omega, hcm, by omega, by rw [hlen, Nat.mul_one]; exact k3⟩⟩, ⟨(fun e => by cases e), fun e => ?_⟩, ?_⟩
    · exfalso
      have : ss.length = 0 := by rw [← hlen, e]; rfl
      exact hne (List.eq_nil_of_length_eq_zero this)
    · refine H2.out.2.2.2.trans ?_
      have hb : RowKit.Below g (rw64 w2 0 g (Go.Sort.sort Go.Sort.ltInt ss.toArray)) w3 := RowKit.Below.mono H3.out (Nat.le_of_lt (Array.getElem?_eq_some_iff.1 hg).1)
      have hb2 : RowKit.Below g w2 (rw64 w2 0 g (Go.Sort.sort Go.Sort.ltInt ss.toArray)) := ⟨rfl, rfl, rfl, by rw [rw_hsize]; exact Nat.le_refl _, fun k hk => rw_heap _ _ _ _ _ (by omega)⟩
      exact (hb2.trans hb).mono hbase
end Go.Proofs.Ytoleiiicbnmhpaa
namespace Go.Proofs.Ytoleiiicbnmhpaa
open Go.RowKit Go.Maps Go.Shelf
/-- The slots of a desk, rising. -/
def SlotsOf (Dm : Nat → Option OpR) (ns : List Nat) : Prop := ns.Pairwise (fun x y => x < y) ∧ ∀ s, s ∈ ns ↔ (Dm s).isSome = true
def rowsO (Dm : Nat → Option OpR) (ns : List Nat) : List (Nat × OpR) := ns.map (fun s => (s, (Dm s).getD op0))
/-- What All tells. -/
def AllPostS (Dm : Nat → Option OpR) (w : World) (e : Ending) (w' : World) : Prop := ∃ A c ns, e = .returned (.slice A ns.length c) ∧ SlotsOf Dm ns ∧ Below w.heap.size w w' ∧ w'.ownsRow w.heap.size 63 4 (.slice A ns.length c) ns.length (flat encO (rowsO Dm ns))
theorem slots_of {Dm : Nat → Option OpR} {D : DataW Value} {ss : List Int} (h : Came D (fun _ => false) ss) (hp : ss.Pairwise (fun x y => x < y)) (hh : ∀ x : Int, Maps.has D (.int .u64 x) = (mpOf Dm (.int .u64 x)).isSome) : ∃ ns : List Nat, ss = ns.map (fun s : Nat => (s : Int)) ∧ SlotsOf Dm ns := by
  have hx : ∀ x ∈ ss, ∃ s : Nat, x = (s : Int) := fun x hx => by
    have h1 := ((h.2 x).1 hx).1
    rw [hh] at h1
    obtain ⟨s, _, e, _⟩ := mpOf_some h1
    exact ⟨s, e⟩
  have he : ss = (ss.map Int.toNat).map (fun s : Nat => (s : Int)) := by
    rw [List.map_map]
    conv => lhs; rw [← List.map_id ss]
    refine List.map_congr_left fun x hxx => ?_
    obtain ⟨s, rfl⟩ := hx x hxx
    rfl
  refine ⟨ss.map Int.toNat, he, ?_, fun s => ?_⟩
  · rw [he] at hp
    rw [List.pairwise_map] at hp
    exact hp.imp fun q => by omega
  · have h2 := h.2 (s : Int)
    rw [hh, show mpOf Dm (.int .u64 (s : Int)) = (Dm s).map (opV s) from mpOf_at Dm s] at h2
    have h3 : (s : Int) ∈ ss ↔ s ∈ ss.map Int.toNat := by
      constructor
      · intro q
        exact List.mem_map.2 ⟨_, q, rfl⟩
      · intro q
        rw [he]
        exact List.mem_map.2 ⟨s, q, rfl⟩
    rw [← h3, h2]
    simp
set_option maxRecDepth 100000 in
set_option maxHeartbeats 4000000 in
theorem all_any (p g n last : Nat) (Dm : Nat → Option OpR) (hn : n ≤ 100000) (hr64 : ∀ s r, Dm s = some r → s < 18446744073709551616) (w : World) (h : DeskAt w p g n Dm last) :
    Calls Try.prog 16 #[.pointer (some ⟨p, 0, none⟩)] w (AllPostS Dm w) := by
  obtain ⟨c0, c1⟩ := h.cells
  clear c1
  obtain ⟨D, hown, hM⟩ := h.mp
  have hsz : Maps.size D ≤ 1000000 := by have := hown.size_le; omega
  have hsz2 : Maps.size D ≤ 100000 := by have := hown.size_le; omega
  have hk := callsIn_wide.1 (keys_in 5 (some g) w)
  have hb1 := (Below.refl w.heap.size w).alloc (Nat.le_refl _) (.cells #[.map (some g)] 65)
  have hs := sortedK_any w.heap.size g n D hsz (w.alloc (.cells #[.map (some g)] 65)) (by simp) (cell_of_row _ _ _ _ _ _ (heap_alloc_new _ _)) (hown.alloc _)
  have Hk := Lib.hid hk
  have Hs := Lib.hid hs
  have Hb1 := Lib.hid hb1
  have H := Lib.hid h
  have HM := Lib.hid (fun x : Int => (hM (.int .u64 x) trivial).1)
  have hR := Lib.hid hr64
  have HS2 := Lib.hid hsz2
  clear hr64
  clear hk hs hb1 h hM hown hsz hsz2
  go_enter Try.func16, Try.ntmps16
  go_upto_region 5 with (first
    | ((with_reducible refine Hk.out.mono ?_); rintro e w1 ⟨rfl, rfl⟩)
    | ((with_reducible refine Hs.out.mono ?_); rintro e w2 ⟨v, ss, rfl, k1, k2, k3, k4⟩; have H2 := Lib.hid (And.intro k1 (And.intro k2 (And.intro k3 k4))); clear k1 k2 k3 k4; obtain ⟨A, c, rfl⟩ : ∃ A c, v = .slice A ss.length c := (by
        rcases H2.out.2.1.2 with ⟨rfl, h0⟩ | ⟨g', cap, cur, rfl, _⟩
        · rw [h0]; exact ⟨none, 0, rfl⟩
        · exact ⟨_, _, rfl⟩)))
  have hb2 : Below w.heap.size w w2 := Hb1.out.trans (H2.out.2.2.2.mono Hb1.out.size)
  have Hd2 := Lib.hid (H.out.below hb2)
  have Hb2 := Lib.hid hb2
  obtain ⟨ns, hss, hns⟩ := slots_of H2.out.1.1 H2.out.1.2 HM.out
  have hlen : ss.length = ns.length := by rw [hss, List.length_map]
  have hnl : ns.length ≤ 100000 := by rw [← hlen]; exact Nat.le_trans (came_size H2.out.1.1) HS2.out
  have hcell : ∀ i (hi : i < ns.length), ∃ gk, A = some ⟨gk, 0, none⟩ ∧ gk < w2.heap.size ∧ w2.cell? ⟨gk, i, none⟩ = some (.int .u64 (ns[i] : Int)) := by
    intro i hi
    rcases H2.out.2.1.2 with ⟨_, h0⟩ | ⟨gk, cap, cur, e, _, hg, _, _, _, ht⟩
    · omega
    · cases e
      refine ⟨gk, rfl, (Array.getElem?_eq_some_iff.1 hg).1, ?_⟩
      have e1 : (cur.toList.take (ss.length * 1))[i]? = some (u64v (ns[i] : Int)) := by
        rw [ht, hss, List.getElem?_map, List.getElem?_map, List.getElem?_eq_getElem hi]
        rfl
      rw [List.getElem?_take, if_pos (by omega)] at e1
      unfold World.cell?
      rw [hg]
      show cur[i]? = _
      rw [← Array.getElem?_toList]
      exact e1
  have Hcell := Lib.hid hcell
  have HNS := Lib.hid hns
  have HNL := Lib.hid hnl
  obtain ⟨i0, hi0, hz0, hs0, hb0⟩ := info_parts infoOp
  have Hi0 := Lib.hid (And.intro hi0 (And.intro hz0 (And.intro hs0 hb0)))
  rw [hlen]
  clear hcell hns hnl hss hlen hb2 Hk Hs Hb1 c0 H2 hi0 hz0 hs0 hb0
  generalize hL : ns.length = L
  have HL := Lib.hid hL
  have bL : (L : Int) < 1152921504606846976 := by have := HNL.out; omega
  have HNL2 := Lib.hid (show L ≤ 100000 by have := HNL.out; omega)
  clear hL
  go_loopw [3, 15] (fun s3 s15 wr => ∃ i : Nat, s15 = .int .i64 (i : Int) ∧ i ≤ L ∧ Below w2.heap.size w2 wr ∧ (∃ A' c', s3 = .slice A' i c') ∧ wr.ownsRow w2.heap.size 63 4 s3 i (flat encO ((rowsO Dm ns).take i))) (fun _ s15 _ => L - (intOf s15).toNat)
  case atStart => exact ⟨0, rfl, Nat.zero_le _, Below.refl _ _, ⟨none, 0, rfl⟩, World.ownsRow_nil _ _ _ _⟩
  case round =>
    obtain ⟨i, rfl, hi, hb, ⟨A3, c3, rfl⟩, ho⟩ := hrel
    have Hb := Lib.hid hb
    have Ho := Lib.hid ho
    by_cases hiL : i < L
    · have hiL' : (i : Int) < (L : Int) := by omega
      obtain ⟨gk, rfl, hgk, hck⟩ := Hcell.out i (by rw [HL.out]; exact hiL)
      have hin : i < ns.length := by rw [HL.out]; exact hiL
      obtain ⟨s, hs⟩ : ∃ s, s = ns[i] := ⟨_, rfl⟩
      have hDs := (HNS.out.2 s).1 (by rw [hs]; exact List.getElem_mem hin)
      obtain ⟨r, hr⟩ := Option.isSome_iff_exists.1 hDs
      have f0 := (hb.cell (p := ⟨gk, i, none⟩) hgk).trans hck
      rw [← hs] at f0
      have hd3 := Hd2.out.below hb
      obtain ⟨c0, c1⟩ := hd3.cells
      have Hd3 := Lib.hid hd3
      have Hn3 := Lib.hid (op_new wr s r)
      have hlt : s < 18446744073709551616 := hR.out s r hr
      have hk := key_ku hlt
      have hMo : mpOf Dm (ku s) = some (.agg #[.int .u64 (s : Int), .string r.x, .int .u8 (r.c : Int), .int .u8 (r.who : Int)]) := by rw [mpOf_at, hr]; rfl
      have hrow : (rowsO Dm ns).take (i + 1) = (rowsO Dm ns).take i ++ [(s, r)] := by
        have hl2 : i < (rowsO Dm ns).length := by unfold rowsO; rw [List.length_map]; exact hin
        rw [List.take_add_one, List.getElem?_eq_getElem hl2]
        congr 1
        simp only [rowsO, List.getElem_map, ← hs, hr, Option.getD_some, Option.toList_some]
      have HROW := Lib.hid hrow
      have hi5 := HNL2.out
      have HI5 := Lib.hid (show i ≤ 100000 by omega)
      clear hb hd3 c1 ho hck hs hDs hr hrow hi5 hin
      go_wp2_with (first
        | (at_lookup; refine wpList_look_mp rfl _ _ 65 63 rfl lawU Try.underlying65 op_zero rfl Hd3.out.mp _ (ku s) rfl hk ?_)
        | (at_builtin; refine wpList_plain rfl (fun K hK => ?_); refine wp_append_slice (k := 4) (enc := encO) _ _ 42 rfl w2.heap.size 63 i0 _ 32 Try.underlying42 Hi0.out.1 Hi0.out.2.1 Hi0.out.2.2.1 Hi0.out.2.2.2 rfl (by omega) (fun _ => rfl) (fun q => op_one q.1 q.2) (.slice A3 i c3) i _ rfl (Ho.out.alloc _) (some ⟨wr.heap.size, 0, none⟩) 1 1 [(s, r)] rfl Hn3.out (fun e => by cases e) (by have := HI5.out; simp [maxLen]; omega) (by have := HI5.out; omega) (by have := Hb.out.size; simp; omega) ?_; intro v7 w7 ho7 hg7; have H7 := Lib.hid (And.intro ho7 hg7); clear ho7 hg7; refine hK _ _ ?_))
      obtain ⟨A7, c7, rfl⟩ := own_slice_of H7.out.1
      have hb7 : Below w2.heap.size w2 w7 := (Hb.out.alloc Hb.out.size _).grown H7.out.2 (by have := Hb.out.size; simp; omega) (fun k hk => by
        rcases Ho.out.2 with ⟨e, _⟩ | ⟨g5, _, _, e, h5, _⟩
        · rw [e] at hk
          cases hk
        · rw [e] at hk
          cases hk
          exact h5)
      refine ⟨⟨i + 1, rfl, by omega, hb7, ⟨A7, c7, rfl⟩, ?_⟩, by simp only [intOf]; omega⟩
      have h7 := H7.out.1
      rw [HROW.out, flat_app]
      exact h7
    · have hiL' : ¬ (i : Int) < (L : Int) := by omega
      have hie : i = L := by omega
      subst hie
      go_wp2_with fail
      go_ret
      refine ⟨A3, c3, ns, by rw [HL.out]; rfl, HNS.out, Hb2.out.trans (Hb.out.mono Hb2.out.size), ?_⟩
      have h7 := Ho.out
      have hall : (rowsO Dm ns).take i = rowsO Dm ns := List.take_of_length_le (by unfold rowsO; rw [List.length_map, HL.out]; exact Nat.le_refl _)
      rw [hall] at h7
      rw [HL.out]
      refine ⟨h7.1, ?_⟩
      rcases h7.2 with q | ⟨g5, cap, cur, e, h5, q⟩
      · exact .inl q
      · exact .inr ⟨g5, cap, cur, e, Nat.le_trans Hb2.out.size h5, q⟩
end Go.Proofs.Ytoleiiicbnmhpaa
namespace Go.Proofs.Ytoleiiicbnmhpaa
open Go.ChangeShapes Go.WideShapes Go.Deep Go.RowKit
instance : Inhabited PAct := ⟨⟨0, 0, ByteArray.empty, 0, 0⟩⟩
abbrev PactsAt := SliceAt 5 pactCells
theorem pacts_open {H : Type} {enc : TypeId × Value → H} {w : World} {base : Nat} {spare : Nat → Bool} {held : Bool} {a : Option Addr} {len cap : Nat} {d : DataW H} {pl : List MemPlace}
    (h : DataW.Trod enc Try.prog w base spare held 46 (.slice a len cap) d pl) : ∃ z : List PAct, PactsAt w a len z :=
  open_rows pactCells Try.underlying46 Try.underlying40 (by kernel_rfl) (by kernel_rfl) (by decide) (pact_hx Try.underlying40) h
theorem pacts_row {w : World} {a : Option Addr} {len : Nat} {z : List PAct} (h : PactsAt w a len z) {i : Nat} (hi : i < len) : ∃ b o, a = some ⟨b, o, none⟩ ∧ b < w.heap.size ∧ w.rangeAt b (o + i * 5) (pactCells (z.getD i default)) := by
  have hl := h.hlen
  have hz : z[i]? = some (z.getD i default) := by simp [List.getD, List.getElem?_eq_getElem (show i < z.length by omega)]
  obtain ⟨b, o, h1, h2, h3⟩ := h.cells i _ hz
  exact ⟨b, o, h1, h2, fun j v hv => by rw [← h3 j v hv, Nat.add_assoc]⟩
/-- What great tells. -/
def pgreatS (z : List PAct) : Bool := decide (200 < z.length) || z.any fun x => decide (100 < x.x.size)
theorem pgreat_ok {z : List PAct} (h : pgreatS z = false) : z.length ≤ 200 ∧ ∀ i, i < z.length → (z.getD i default).x.size ≤ 100 := by
  simp only [pgreatS, Bool.or_eq_false_iff, decide_eq_false_iff_not, List.any_eq_false] at h
  refine ⟨by omega, fun i hi => ?_⟩
  have := h.2 (z.getD i default) (by rw [List.getD, List.getElem?_eq_getElem hi]; exact List.getElem_mem _)
  simp only [decide_eq_true_eq] at this
  omega
set_option maxHeartbeats 2000000 in
theorem pgreat_any (a : Option Addr) (len cap : Nat) (z : List PAct) (w : World) (h : PactsAt w a len z) :
    Calls Try.prog 18 #[.slice a len cap] w fun e w' => e = .returned (.bool (pgreatS z)) ∧ w = w' := by
  have hl := h.hlen
  have hm := h.hmax
  unfold maxLen at hm
  by_cases hbig : 200 < len
  · have hg : pgreatS z = true := by simp [pgreatS, hl, hbig]
    have hbig' : (200 : Int) < (len : Int) := by omega
    have H := Lib.hid h; clear h
    have Hg := Lib.hid hg; clear hg
    clear hl
    go_enter Try.func18, Try.ntmps18
    go_wp2_with fail
    go_ret
    exact ⟨by rw [Hg.out]; rfl, rfl⟩
  · have hbig' : ¬ (200 : Int) < (len : Int) := by omega
    have Hl := Lib.hid hl; clear hl
    have H := Lib.hid h; clear h
    go_enter Try.func18, Try.ntmps18
    go_upto_region 4 with fail
    go_loopw [3] (fun s3 wr => w = wr ∧ ∃ i : Nat, i ≤ len ∧ s3 = .int .i64 (i : Int) ∧ ∀ j, j < i → (z.getD j default).x.size ≤ 100) (fun s3 _ => len - (intOf s3).toNat)
    case atStart => exact ⟨rfl, 0, by omega, rfl, by omega⟩
    case round =>
      obtain ⟨rfl, i, hi, rfl, hall⟩ := hrel
      have Hall := Lib.hid hall; clear hall
      by_cases hlt : i < len
      · have hlt' : (i : Int) < (len : Int) := by omega
        obtain ⟨b, o, rfl, _, hr⟩ := pacts_row H.out hlt
        have c2 : w.cell? ⟨b, o + i * 5 + 2, none⟩ = some (.string (z.getD i default).x) := hr 2 _ rfl
        have hgt : 100 < (z.getD i default).x.size → pgreatS z = true := by
          intro hg
          have hm' : z.getD i default ∈ z := by
            have := Hl.out
            simp only [List.getD, List.getElem?_eq_getElem (show i < z.length by omega), Option.getD_some]
            exact List.getElem_mem _
          simp only [pgreatS, Bool.or_eq_true, List.any_eq_true, decide_eq_true_eq]
          exact .inr ⟨_, hm', hg⟩
        have Hgt := Lib.hid hgt; clear hgt hr
        have bi : i < 1152921504606846976 := by omega
        generalize hv : (z.getD i default).x = u at *
        have Hv := Lib.hid hv; clear hv
        by_cases hg : 100 < u.size
        · have hg' : (100 : Int) < (u.size : Int) := by omega
          go_wp2_with fail
          go_ret
          exact ⟨by rw [Hgt.out hg]; rfl, rfl⟩
        · have hg' : ¬ (100 : Int) < (u.size : Int) := by omega
          go_wp2_with fail
          refine ⟨⟨by first | rfl | trivial, i + 1, by omega, rfl, fun j hj => ?_⟩, by simp only [intOf]; omega⟩
          by_cases e : j = i
          · subst e; rw [Hv.out]; omega
          · exact Hall.out j (by omega)
      · have hlt' : ¬ (i : Int) < (len : Int) := by omega
        have hie : i = len := by omega
        subst hie
        have hfin : pgreatS z = false := by
          simp only [pgreatS, Bool.or_eq_false_iff, decide_eq_false_iff_not, List.any_eq_false]
          refine ⟨by rw [Hl.out]; exact hbig, fun x hx => ?_⟩
          obtain ⟨j, hj, rfl⟩ := List.getElem_of_mem hx
          have h2 := Hall.out j (by rw [← Hl.out]; exact hj)
          rw [List.getD, List.getElem?_eq_getElem hj] at h2
          have h3 : z[j].x.size ≤ 100 := h2
          simp
          omega
        have Hfin := Lib.hid hfin; clear hfin
        go_wp2_with fail
        go_ret
        exact ⟨by rw [Hfin.out]; rfl, rfl⟩
/-- A vote: the desk behind it, the item, and whether it decides. -/
def votedS (D : Nat → Option OpR) (s nd : Nat) : (Nat → Option OpR) × (Nat × ByteArray) × Bool :=
  match D s with
  | none => (D, (0, ByteArray.empty), false)
  | some r => if hasS r.c nd then (if majorS r.c (withS r.who (ofS nd)) then (updD D s none, (s, r.x), true) else (updD D s (some ⟨r.x, r.c, withS r.who (ofS nd)⟩), (0, ByteArray.empty), false)) else (D, (0, ByteArray.empty), false)
/-- What Voted leaves. -/
structure VotedTo (w w' : World) (p g n last : Nat) (D : Nat → Option OpR) (s nd : Nat) : Prop where
  d : ∃ n', n' ≤ n + 1 ∧ DeskAt w' p g n' (votedS D s nd).1 last
  two : ButTwo p g w w'
theorem voted_any (p g n last : Nat) (D : Nat → Option OpR) (nd s : Nat) (hr : ∀ r, D s = some r → r.c < 256 ∧ r.who < 256) (hn : nd < 256) (hn5 : n < 100000) (hs : s < 18446744073709551616) (w : World) (h : DeskAt w p g n D last) :
    Calls Try.prog 13 #[.pointer (some ⟨p, 0, none⟩), .int .u8 (nd : Int), .int .u64 (s : Int)] w fun e w' => e = .returned (.tuple #[itV (votedS D s nd).2.1.1 (votedS D s nd).2.1.2, .bool (votedS D s nd).2.2]) ∧ VotedTo w w' p g n last D s nd := by
  cases hD : D s with
  | none =>
    have e : votedS D s nd = (D, (0, ByteArray.empty), false) := by unfold votedS; rw [hD]
    refine (voted_none p g n last D nd s hD hs w h).mono ?_
    rintro _ w' ⟨rfl, hb⟩
    exact ⟨by rw [e], ⟨⟨n, by omega, by rw [e]; exact h.below hb⟩, two_of hb⟩⟩
  | some r =>
    obtain ⟨hc, hw⟩ := hr r hD
    cases hh : hasS r.c nd with
    | false =>
      have e : votedS D s nd = (D, (0, ByteArray.empty), false) := by unfold votedS; rw [hD]; simp [hh]
      refine (voted_not p g n last D nd s r hD hc hn hh hs w h).mono ?_
      rintro _ w' ⟨rfl, hb⟩
      exact ⟨by rw [e], ⟨⟨n, by omega, by rw [e]; exact h.below hb⟩, two_of hb⟩⟩
    | true =>
      cases hm : majorS r.c (withS r.who (ofS nd)) with
      | false =>
        have e : votedS D s nd = (updD D s (some ⟨r.x, r.c, withS r.who (ofS nd)⟩), (0, ByteArray.empty), false) := by unfold votedS; rw [hD]; simp [hh, hm]
        refine (voted_more p g n last D nd s r hD hc hw hn hn5 hh hm hs w h).mono ?_
        rintro _ w' ⟨rfl, hd, hb⟩
        exact ⟨by rw [e], ⟨⟨_, Nat.le_refl _, by rw [e]; exact hd⟩, hb⟩⟩
      | true =>
        have e : votedS D s nd = (updD D s none, (s, r.x), true) := by unfold votedS; rw [hD]; simp [hh, hm]
        refine (voted_wins p g n last D nd s r hD hc hw hn hh hm hs w h).mono ?_
        rintro _ w' ⟨rfl, hd, hb⟩
        exact ⟨by rw [e], ⟨⟨n, by omega, by rw [e]; exact hd⟩, hb⟩⟩
end Go.Proofs.Ytoleiiicbnmhpaa
