/- Readers: machine.Of. Condition: the bytes fit in memory. -/
import Derived.Test.YtkngadbeflepoaaZDeltaLeads26
import Derived.Test.YtkngadbeflepoaaZDeltaLeads16
import Derived.Test.YtkngadbeflepoaaZDeltaLeads19
import Derived.Test.YtkngadbeflepoaaZDeltaLeads11
namespace Go.Proofs.Ytkngadbeflepoaa
open Go.RowKit
/-- May a machine's sets be? -/
def setsOk (M : MacV) : Bool := mayS M.mem M.all && decide (M.all = bothS M.all M.all) && decide (M.mem = bothS M.mem M.mem)
theorem both_bel (x y : Nat) (hx : x < 256) (hy : y < 256) (w : World) : Calls Try.prog 60 #[.int .u8 (x : Int), .int .u8 (y : Int)] w fun e w' => e = .returned (.int .u8 (bothS x y : Int)) ∧ Below w.heap.size w w' :=
  (both_any x y hx hy w).mono fun e w' h => ⟨h.1, by rw [← h.2]; exact Below.refl _ _⟩
theorem mayS_bel (x y : Nat) (hx : x < 256) (hy : y < 256) (w : World) : Calls Try.prog 59 #[.int .u8 (x : Int), .int .u8 (y : Int)] w fun e w' => e = .returned (.bool (mayS x y)) ∧ Below w.heap.size w w' :=
  (mayS_any x y hx hy w).mono fun e w' h => ⟨h.1, by rw [← h.2]; exact Below.refl _ _⟩
set_option maxRecDepth 100000 in
set_option maxHeartbeats 8000000 in
theorem sets_any (M : MacV) (P : Option Addr) (w : World) (ha : M.all < 256) (hm : M.mem < 256) :
    Calls Try.prog 85 #[.agg (macCells M P).toArray] w fun e w' => e = .returned (.bool (setsOk M)) ∧ Below w.heap.size w w' := by
  have hb1 := (Below.refl w.heap.size w).alloc (Nat.le_refl _) (.cells (macCells M P).toArray 67)
  have hp1 : PartAt (w.alloc (.cells (macCells M P).toArray 67)) w.heap.size M P := heap_alloc_new _ _
  obtain ⟨ok, hok⟩ : ∃ b, setsOk M = b := ⟨_, rfl⟩
  have hok0 := hok
  rw [hok]
  unfold setsOk at hok0
  have Hm := Lib.hid (fun y : World => mayS_bel M.mem M.all hm ha y)
  have H1 := Lib.hid (fun y : World => both_bel M.all M.all ha ha y)
  have H2 := Lib.hid (fun y : World => both_bel M.mem M.mem hm hm y)
  generalize mayS M.mem M.all = b1 at *
  generalize bothS M.all M.all = q1 at *
  generalize bothS M.mem M.mem = q2 at *
  have e1 : ((M.all : Int) == (q1 : Int)) = decide (M.all = q1) := by
    by_cases h : M.all = q1
    · simp [h]
    · simp [h]; omega
  have e2 : ((M.mem : Int) == (q2 : Int)) = decide (M.mem = q2) := by
    by_cases h : M.mem = q2
    · simp [h]
    · simp [h]; omega
  generalize decide (M.all = q1) = b2 at *
  generalize decide (M.mem = q2) = b3 at *
  have Hok := Lib.hid hok0; clear hok0 hok
  rw [mac_eta]
  go_enter Try.func85, Try.ntmps85
  go_upto_region 1 with fail
  change Code.wp _ _ _ _ (w.alloc (.cells (macCells M P).toArray 67))
  generalize w.alloc (.cells (macCells M P).toArray 67) = w1 at *
  have Hp1 := Lib.hid hp1; clear hp1
  have Hb1 := Lib.hid hb1; clear hb1
  cases b1 with
  | false =>
    refine (wpIn_wide (n := 1)).1 ?_
    refine RegJ.wpIn_region_plan (F := Fence.wide) (KeptW w1) (.step 0 0 (.step 1 0 (.step 2 0 (.step 3 0 (.step 4 1 (.step 5 0 (.step 6 0 (.step 7 0 (.step 8 0 (.step 9 0 (.step 10 0 (.step 11 0 (.step 12 1 (.step 13 0 (.step 14 0 (.step 15 0 (.step 16 0 (.step 17 0 (.step 18 0 (.step 19 0 (.step 20 0 (.step 21 0 (.step 22 1 (.step 23 0 (.step 24 0 (.step 25 0 .nil)))))))))))))))))))))))))) (by kernel_rfl) (by kernel_rfl) (by kernel_rfl) (fun _ _ d _ _ h => by cases d <;> exact h) ⟨rfl, rfl, rfl, Nat.le_refl _, fun _ _ => rfl⟩ ?_
    dsimp only [RegJ.pickJ, List.getElem?_cons_zero, List.getElem?_cons_succ]
    change RegJ.Can _ _ _ _ _ _ _ _ w1.drew
    have hkd : KeptW w1 w1.drew := ⟨rfl, rfl, rfl, Nat.le_refl _, fun _ _ => rfl⟩
    generalize w1.drew = v1 at *
    refine RegJ.reads ?_; intro K hK; go_simp; (first | refine ⟨_, fun _ _ => rfl, hK _ ?_⟩ | refine hK _ ?_); clear hK K
    refine RegJ.reads ?_
    intro K hK
    go_simp
    refine ⟨.int .u8 (M.mem : Int), fun y hy => ?_, hK _ ?_⟩
    · obtain ⟨f0, f1, f14⟩ := (show PartAt y w.heap.size M P from ((KeptW.bel hy).block _ (Array.getElem?_eq_some_iff.1 Hp1.out).1).trans Hp1.out).cells
      go_simp
    clear hK K
    refine RegJ.reads ?_; intro K hK; go_simp; (first | refine ⟨_, fun _ _ => rfl, hK _ ?_⟩ | refine hK _ ?_); clear hK K
    refine RegJ.reads ?_
    intro K hK
    go_simp
    refine ⟨.int .u8 (M.all : Int), fun y hy => ?_, hK _ ?_⟩
    · obtain ⟨f0, f1, f14⟩ := (show PartAt y w.heap.size M P from ((KeptW.bel hy).block _ (Array.getElem?_eq_some_iff.1 Hp1.out).1).trans Hp1.out).cells
      go_simp
    clear hK K
    refine RegJ.turns (fun _ => trivial) ?_
    intro K K0 hK hK0
    go_simp
    refine ⟨trivial, ?_⟩
    refine (callsIn_wide.2 (Hm.out v1)).mono ?_
    rintro e v2 ⟨rfl, hb7⟩
    have v2k : KeptW w1 v2 := KeptW.mono hkd hb7
    refine hK _ _ _ (fun _ h => h) v2k ?_
    clear hK K hK0 K0
    iterate 2 (refine RegJ.reads ?_; intro K hK; go_simp; (first | refine ⟨_, fun _ _ => rfl, hK _ ?_⟩ | refine hK _ ?_); clear hK K)
    (refine RegJ.reads ?_; intro K hK; go_simp; refine hK _ ?_; clear hK K)
    refine RegJ.reads ?_; intro K hK; go_simp; (first | refine ⟨_, fun _ _ => rfl, hK _ ?_⟩ | refine hK _ ?_); clear hK K
    (refine RegJ.reads ?_; intro K hK; go_simp; refine hK _ ?_; clear hK K)
    refine RegJ.reads ?_; intro K hK; go_simp; (first | refine ⟨_, fun _ _ => rfl, hK _ ?_⟩ | refine hK _ ?_); clear hK K
    (refine RegJ.reads ?_; intro K hK; go_simp; refine hK _ ?_; clear hK K)
    (refine RegJ.turns (fun _ => trivial) ?_; intro K K0 hK hK0; go_simp; refine hK0 _ ?_; clear hK K hK0 K0)
    iterate 4 (refine RegJ.reads ?_; intro K hK; go_simp; (first | refine ⟨_, fun _ _ => rfl, hK _ ?_⟩ | refine hK _ ?_); clear hK K)
    (refine RegJ.reads ?_; intro K hK; go_simp; refine hK _ ?_; clear hK K)
    refine RegJ.reads ?_; intro K hK; go_simp; (first | refine ⟨_, fun _ _ => rfl, hK _ ?_⟩ | refine hK _ ?_); clear hK K
    (refine RegJ.reads ?_; intro K hK; go_simp; refine hK _ ?_; clear hK K)
    refine RegJ.reads ?_; intro K hK; go_simp; (first | refine ⟨_, fun _ _ => rfl, hK _ ?_⟩ | refine hK _ ?_); clear hK K
    (refine RegJ.reads ?_; intro K hK; go_simp; refine hK _ ?_; clear hK K)
    (refine RegJ.turns (fun _ => trivial) ?_; intro K K0 hK hK0; go_simp; refine hK0 _ ?_; clear hK K hK0 K0)
    iterate 3 (refine RegJ.reads ?_; intro K hK; go_simp; (first | refine ⟨_, fun _ _ => rfl, hK _ ?_⟩ | refine hK _ ?_); clear hK K)
    refine RegJ.nil ?_
    have HJ := Lib.hid (Hb1.out.trans ((KeptW.bel v2k).mono Hb1.out.size))
    go_wp2_with fail
    go_ret
    exact ⟨by rw [← Hok.out]; rfl, HJ.out⟩
  | true =>
  cases b2 with
  | false =>
    refine (wpIn_wide (n := 1)).1 ?_
    refine RegJ.wpIn_region_plan (F := Fence.wide) (KeptW w1) (.step 0 0 (.step 1 0 (.step 2 0 (.step 3 0 (.step 4 1 (.step 5 0 (.step 6 0 (.step 7 0 (.step 8 0 (.step 9 0 (.step 10 0 (.step 11 0 (.step 12 1 (.step 13 0 (.step 14 0 (.step 15 0 (.step 16 0 (.step 17 0 (.step 18 0 (.step 19 0 (.step 20 0 (.step 21 0 (.step 22 1 (.step 23 0 (.step 24 0 (.step 25 0 .nil)))))))))))))))))))))))))) (by kernel_rfl) (by kernel_rfl) (by kernel_rfl) (fun _ _ d _ _ h => by cases d <;> exact h) ⟨rfl, rfl, rfl, Nat.le_refl _, fun _ _ => rfl⟩ ?_
    dsimp only [RegJ.pickJ, List.getElem?_cons_zero, List.getElem?_cons_succ]
    change RegJ.Can _ _ _ _ _ _ _ _ w1.drew
    have hkd : KeptW w1 w1.drew := ⟨rfl, rfl, rfl, Nat.le_refl _, fun _ _ => rfl⟩
    generalize w1.drew = v1 at *
    refine RegJ.reads ?_; intro K hK; go_simp; (first | refine ⟨_, fun _ _ => rfl, hK _ ?_⟩ | refine hK _ ?_); clear hK K
    refine RegJ.reads ?_
    intro K hK
    go_simp
    refine ⟨.int .u8 (M.mem : Int), fun y hy => ?_, hK _ ?_⟩
    · obtain ⟨f0, f1, f14⟩ := (show PartAt y w.heap.size M P from ((KeptW.bel hy).block _ (Array.getElem?_eq_some_iff.1 Hp1.out).1).trans Hp1.out).cells
      go_simp
    clear hK K
    refine RegJ.reads ?_; intro K hK; go_simp; (first | refine ⟨_, fun _ _ => rfl, hK _ ?_⟩ | refine hK _ ?_); clear hK K
    refine RegJ.reads ?_
    intro K hK
    go_simp
    refine ⟨.int .u8 (M.all : Int), fun y hy => ?_, hK _ ?_⟩
    · obtain ⟨f0, f1, f14⟩ := (show PartAt y w.heap.size M P from ((KeptW.bel hy).block _ (Array.getElem?_eq_some_iff.1 Hp1.out).1).trans Hp1.out).cells
      go_simp
    clear hK K
    refine RegJ.turns (fun _ => trivial) ?_
    intro K K0 hK hK0
    go_simp
    refine ⟨trivial, ?_⟩
    refine (callsIn_wide.2 (Hm.out v1)).mono ?_
    rintro e v2 ⟨rfl, hb7⟩
    have v2k : KeptW w1 v2 := KeptW.mono hkd hb7
    refine hK _ _ _ (fun _ h => h) v2k ?_
    clear hK K hK0 K0
    iterate 2 (refine RegJ.reads ?_; intro K hK; go_simp; (first | refine ⟨_, fun _ _ => rfl, hK _ ?_⟩ | refine hK _ ?_); clear hK K)
    refine RegJ.reads ?_
    intro K hK
    go_simp
    refine ⟨.int .u8 (M.all : Int), fun y hy => ?_, hK _ ?_⟩
    · obtain ⟨f0, f1, f14⟩ := (show PartAt y w.heap.size M P from ((KeptW.bel hy).block _ (Array.getElem?_eq_some_iff.1 Hp1.out).1).trans Hp1.out).cells
      go_simp
    clear hK K
    refine RegJ.reads ?_; intro K hK; go_simp; (first | refine ⟨_, fun _ _ => rfl, hK _ ?_⟩ | refine hK _ ?_); clear hK K
    refine RegJ.reads ?_
    intro K hK
    go_simp
    refine ⟨.int .u8 (M.all : Int), fun y hy => ?_, hK _ ?_⟩
    · obtain ⟨f0, f1, f14⟩ := (show PartAt y w.heap.size M P from ((KeptW.bel hy).block _ (Array.getElem?_eq_some_iff.1 Hp1.out).1).trans Hp1.out).cells
      go_simp
    clear hK K
    refine RegJ.reads ?_; intro K hK; go_simp; (first | refine ⟨_, fun _ _ => rfl, hK _ ?_⟩ | refine hK _ ?_); clear hK K
    refine RegJ.reads ?_
    intro K hK
    go_simp
    refine ⟨.int .u8 (M.all : Int), fun y hy => ?_, hK _ ?_⟩
    · obtain ⟨f0, f1, f14⟩ := (show PartAt y w.heap.size M P from ((KeptW.bel hy).block _ (Array.getElem?_eq_some_iff.1 Hp1.out).1).trans Hp1.out).cells
      go_simp
    clear hK K
    refine RegJ.turns (fun _ => trivial) ?_
    intro K K0 hK hK0
    go_simp
    refine ⟨trivial, ?_⟩
    refine (callsIn_wide.2 (H1.out v2)).mono ?_
    rintro e v3 ⟨rfl, hb7⟩
    have v3k : KeptW w1 v3 := KeptW.mono v2k hb7
    refine hK _ _ _ (fun _ h => h) v3k ?_
    clear hK K hK0 K0
    iterate 4 (refine RegJ.reads ?_; intro K hK; go_simp; (first | refine ⟨_, fun _ _ => rfl, hK _ ?_⟩ | refine hK _ ?_); clear hK K)
    (refine RegJ.reads ?_; intro K hK; go_simp; refine hK _ ?_; clear hK K)
    refine RegJ.reads ?_; intro K hK; go_simp; (first | refine ⟨_, fun _ _ => rfl, hK _ ?_⟩ | refine hK _ ?_); clear hK K
    (refine RegJ.reads ?_; intro K hK; go_simp; refine hK _ ?_; clear hK K)
    refine RegJ.reads ?_; intro K hK; go_simp; (first | refine ⟨_, fun _ _ => rfl, hK _ ?_⟩ | refine hK _ ?_); clear hK K
    (refine RegJ.reads ?_; intro K hK; go_simp; refine hK _ ?_; clear hK K)
    (refine RegJ.turns (fun _ => trivial) ?_; intro K K0 hK hK0; go_simp; refine hK0 _ ?_; clear hK K hK0 K0)
    iterate 3 (refine RegJ.reads ?_; intro K hK; go_simp; (first | refine ⟨_, fun _ _ => rfl, hK _ ?_⟩ | refine hK _ ?_); clear hK K)
    refine RegJ.nil ?_
    have HJ := Lib.hid (Hb1.out.trans ((KeptW.bel v3k).mono Hb1.out.size))
    go_wp2_with fail
    go_ret
    exact ⟨by rw [← Hok.out]; rfl, HJ.out⟩
  | true =>
    refine (wpIn_wide (n := 1)).1 ?_
    refine RegJ.wpIn_region_plan (F := Fence.wide) (KeptW w1) (.step 0 0 (.step 1 0 (.step 2 0 (.step 3 0 (.step 4 1 (.step 5 0 (.step 6 0 (.step 7 0 (.step 8 0 (.step 9 0 (.step 10 0 (.step 11 0 (.step 12 1 (.step 13 0 (.step 14 0 (.step 15 0 (.step 16 0 (.step 17 0 (.step 18 0 (.step 19 0 (.step 20 0 (.step 21 0 (.step 22 1 (.step 23 0 (.step 24 0 (.step 25 0 .nil)))))))))))))))))))))))))) (by kernel_rfl) (by kernel_rfl) (by kernel_rfl) (fun _ _ d _ _ h => by cases d <;> exact h) ⟨rfl, rfl, rfl, Nat.le_refl _, fun _ _ => rfl⟩ ?_
    dsimp only [RegJ.pickJ, List.getElem?_cons_zero, List.getElem?_cons_succ]
    change RegJ.Can _ _ _ _ _ _ _ _ w1.drew
    have hkd : KeptW w1 w1.drew := ⟨rfl, rfl, rfl, Nat.le_refl _, fun _ _ => rfl⟩
    generalize w1.drew = v1 at *
    refine RegJ.reads ?_; intro K hK; go_simp; (first | refine ⟨_, fun _ _ => rfl, hK _ ?_⟩ | refine hK _ ?_); clear hK K
    refine RegJ.reads ?_
    intro K hK
    go_simp
    refine ⟨.int .u8 (M.mem : Int), fun y hy => ?_, hK _ ?_⟩
    · obtain ⟨f0, f1, f14⟩ := (show PartAt y w.heap.size M P from ((KeptW.bel hy).block _ (Array.getElem?_eq_some_iff.1 Hp1.out).1).trans Hp1.out).cells
      go_simp
    clear hK K
    refine RegJ.reads ?_; intro K hK; go_simp; (first | refine ⟨_, fun _ _ => rfl, hK _ ?_⟩ | refine hK _ ?_); clear hK K
    refine RegJ.reads ?_
    intro K hK
    go_simp
    refine ⟨.int .u8 (M.all : Int), fun y hy => ?_, hK _ ?_⟩
    · obtain ⟨f0, f1, f14⟩ := (show PartAt y w.heap.size M P from ((KeptW.bel hy).block _ (Array.getElem?_eq_some_iff.1 Hp1.out).1).trans Hp1.out).cells
      go_simp
    clear hK K
    refine RegJ.turns (fun _ => trivial) ?_
    intro K K0 hK hK0
    go_simp
    refine ⟨trivial, ?_⟩
    refine (callsIn_wide.2 (Hm.out v1)).mono ?_
    rintro e v2 ⟨rfl, hb7⟩
    have v2k : KeptW w1 v2 := KeptW.mono hkd hb7
    refine hK _ _ _ (fun _ h => h) v2k ?_
    clear hK K hK0 K0
    iterate 2 (refine RegJ.reads ?_; intro K hK; go_simp; (first | refine ⟨_, fun _ _ => rfl, hK _ ?_⟩ | refine hK _ ?_); clear hK K)
    refine RegJ.reads ?_
    intro K hK
    go_simp
    refine ⟨.int .u8 (M.all : Int), fun y hy => ?_, hK _ ?_⟩
    · obtain ⟨f0, f1, f14⟩ := (show PartAt y w.heap.size M P from ((KeptW.bel hy).block _ (Array.getElem?_eq_some_iff.1 Hp1.out).1).trans Hp1.out).cells
      go_simp
    clear hK K
    refine RegJ.reads ?_; intro K hK; go_simp; (first | refine ⟨_, fun _ _ => rfl, hK _ ?_⟩ | refine hK _ ?_); clear hK K
    refine RegJ.reads ?_
    intro K hK
    go_simp
    refine ⟨.int .u8 (M.all : Int), fun y hy => ?_, hK _ ?_⟩
    · obtain ⟨f0, f1, f14⟩ := (show PartAt y w.heap.size M P from ((KeptW.bel hy).block _ (Array.getElem?_eq_some_iff.1 Hp1.out).1).trans Hp1.out).cells
      go_simp
    clear hK K
    refine RegJ.reads ?_; intro K hK; go_simp; (first | refine ⟨_, fun _ _ => rfl, hK _ ?_⟩ | refine hK _ ?_); clear hK K
    refine RegJ.reads ?_
    intro K hK
    go_simp
    refine ⟨.int .u8 (M.all : Int), fun y hy => ?_, hK _ ?_⟩
    · obtain ⟨f0, f1, f14⟩ := (show PartAt y w.heap.size M P from ((KeptW.bel hy).block _ (Array.getElem?_eq_some_iff.1 Hp1.out).1).trans Hp1.out).cells
      go_simp
    clear hK K
    refine RegJ.turns (fun _ => trivial) ?_
    intro K K0 hK hK0
    go_simp
    refine ⟨trivial, ?_⟩
    refine (callsIn_wide.2 (H1.out v2)).mono ?_
    rintro e v3 ⟨rfl, hb7⟩
    have v3k : KeptW w1 v3 := KeptW.mono v2k hb7
    refine hK _ _ _ (fun _ h => h) v3k ?_
    clear hK K hK0 K0
    iterate 4 (refine RegJ.reads ?_; intro K hK; go_simp; (first | refine ⟨_, fun _ _ => rfl, hK _ ?_⟩ | refine hK _ ?_); clear hK K)
    refine RegJ.reads ?_
    intro K hK
    go_simp
    refine ⟨.int .u8 (M.mem : Int), fun y hy => ?_, hK _ ?_⟩
    · obtain ⟨f0, f1, f14⟩ := (show PartAt y w.heap.size M P from ((KeptW.bel hy).block _ (Array.getElem?_eq_some_iff.1 Hp1.out).1).trans Hp1.out).cells
      go_simp
    clear hK K
    refine RegJ.reads ?_; intro K hK; go_simp; (first | refine ⟨_, fun _ _ => rfl, hK _ ?_⟩ | refine hK _ ?_); clear hK K
    refine RegJ.reads ?_
    intro K hK
    go_simp
    refine ⟨.int .u8 (M.mem : Int), fun y hy => ?_, hK _ ?_⟩
    · obtain ⟨f0, f1, f14⟩ := (show PartAt y w.heap.size M P from ((KeptW.bel hy).block _ (Array.getElem?_eq_some_iff.1 Hp1.out).1).trans Hp1.out).cells
      go_simp
    clear hK K
    refine RegJ.reads ?_; intro K hK; go_simp; (first | refine ⟨_, fun _ _ => rfl, hK _ ?_⟩ | refine hK _ ?_); clear hK K
    refine RegJ.reads ?_
    intro K hK
    go_simp
    refine ⟨.int .u8 (M.mem : Int), fun y hy => ?_, hK _ ?_⟩
    · obtain ⟨f0, f1, f14⟩ := (show PartAt y w.heap.size M P from ((KeptW.bel hy).block _ (Array.getElem?_eq_some_iff.1 Hp1.out).1).trans Hp1.out).cells
      go_simp
    clear hK K
    refine RegJ.turns (fun _ => trivial) ?_
    intro K K0 hK hK0
    go_simp
    refine ⟨trivial, ?_⟩
    refine (callsIn_wide.2 (H2.out v3)).mono ?_
    rintro e v4 ⟨rfl, hb7⟩
    have v4k : KeptW w1 v4 := KeptW.mono v3k hb7
    refine hK _ _ _ (fun _ h => h) v4k ?_
    clear hK K hK0 K0
    iterate 3 (refine RegJ.reads ?_; intro K hK; go_simp; (first | refine ⟨_, fun _ _ => rfl, hK _ ?_⟩ | refine hK _ ?_); clear hK K)
    refine RegJ.nil ?_
    have HJ := Lib.hid (Hb1.out.trans ((KeptW.bel v4k).mono Hb1.out.size))
    go_wp2_with fail
    go_ret
    exact ⟨by rw [← Hok.out]; rfl, HJ.out⟩
end Go.Proofs.Ytkngadbeflepoaa
namespace Go.Proofs.Ytkngadbeflepoaa
open Go.RowKit
/-- A machine being read: behind so many of the four steps. -/
def ofStep (i : Nat) (X : RdV × MacV) : RdV × MacV :=
  if i = 0 then (X.1.byte.2, { X.2 with all := X.1.byte.1.toNat }) else if i = 1 then (X.1.byte.2, { X.2 with mem := X.1.byte.1.toNat }) else if i = 2 then (X.1.tab.2, { X.2 with tab := X.1.tab.1 }) else (X.1.keys.2, { X.2 with sh := X.1.keys.1 })
def funcsV (g4 g5 : Nat) : List Value := [.func (.func 76) #[] #[.pointer (some ⟨g4, 0, none⟩), .pointer (some ⟨g5, 0, none⟩)], .func (.func 78) #[] #[.pointer (some ⟨g4, 0, none⟩), .pointer (some ⟨g5, 0, none⟩)], .func (.func 79) #[] #[.pointer (some ⟨g4, 0, none⟩), .pointer (some ⟨g5, 0, none⟩)], .func (.func 81) #[] #[.pointer (some ⟨g4, 0, none⟩), .pointer (some ⟨g5, 0, none⟩)]]
/-- Where machine.Of has its variables. -/
structure OfI (w0 : World) (X : RdV × MacV) (T : Tr) (w : World) : Prop where
  res : MacAt w w0.heap.size macNone none
  pt : PtI (w0.heap.size + 1) (w0.heap.size + 1 + 1) (w0.heap.size + 1 + 1 + 1) X.1 X.2 T w
  fn : w.heap[w0.heap.size + 1 + 1 + 1 + 1]? = some (.cells (funcsV (w0.heap.size + 1 + 1) (w0.heap.size + 1 + 1 + 1)).toArray 1 (0, 0))
  bel : Below w0.heap.size w0 w
  sml : X.2.all < 256 ∧ X.2.mem < 256
theorem OfI.off {w0 w w' : World} {X Y : RdV × MacV} {T U : Tr} (h : OfI w0 X T w) (hp : PtI (w0.heap.size + 1) (w0.heap.size + 1 + 1) (w0.heap.size + 1 + 1 + 1) Y.1 Y.2 U w') (ho : Off [w0.heap.size + 1, w0.heap.size + 1 + 1 + 1] w.heap.size w w') (hs : Y.2.all < 256 ∧ Y.2.mem < 256) : OfI w0 Y U w' :=
  ⟨(ho.block _ h.res.lt (by simp; omega)).trans h.res, hp, (ho.block _ (Array.getElem?_eq_some_iff.1 h.fn).1 (by simp; omega)).trans h.fn, h.bel.trans ((ho.mono h.bel.size).below (by simp; omega)), hs⟩
theorem OfI.below {w0 w w' : World} {X : RdV × MacV} {T : Tr} (h : OfI w0 X T w) (hb : Below w.heap.size w w') : OfI w0 X T w' :=
  ⟨h.res.below hb, ⟨h.pt.rd.below hb, (hb.block _ h.pt.lt.1).trans h.pt.box, (hb.block _ h.pt.lt.2).trans h.pt.p, h.pt.tr.below hb, h.pt.sh, h.pt.ne⟩, (hb.block _ (Array.getElem?_eq_some_iff.1 h.fn).1).trans h.fn, h.bel.trans (hb.mono h.bel.size), h.sml⟩
theorem OfI.only {w0 w w' : World} {X : RdV × MacV} {T : Tr} {R : RdV} (h : OfI w0 X T w) (hr : RdAt w' (w0.heap.size + 1) R) (ho : Only (w0.heap.size + 1) w w') : OfI w0 (R, X.2) T w' :=
  h.off (h.pt.only hr (ho.but _)) (ho.off _ (by simp)) h.sml
theorem OfI.store {w0 w : World} {X : RdV × MacV} {T : Tr} (h : OfI w0 X T w) (M : MacV) (P : Option Addr) : MacAt (rowSt w w0.heap.size 0 (macCells M P)) w0.heap.size M P ∧ (∀ U, TreeAt w U → TreeAt (rowSt w w0.heap.size 0 (macCells M P)) U) ∧ Below w0.heap.size w0 (rowSt w w0.heap.size 0 (macCells M P)) := by
  obtain ⟨h1, h2, h3, h4⟩ := ma_st h.res M P
  exact ⟨h1, h4, h3 _ _ h.bel (Nat.le_refl _)⟩
end Go.Proofs.Ytkngadbeflepoaa
namespace Go.Proofs.Ytkngadbeflepoaa
open Go.RowKit
structure Ent where
  T : Tr
  A : Option Addr
  n : Nat
  c : Nat
/-- A tree and the slice of its pairs. -/
structure EntOk (w : World) (m : Nat) (e : Ent) : Prop where
  tree : TreeAt w e.T
  pairs : PairsAt w e.A e.n e.T.kvs
  ok : POk e.A e.n e.c
  ty : PTy w e.A
  asc : Asc e.T.sh.kv
  heap : e.T.sh.Heap
  few : e.T.cnt ≤ m
  keys : ∀ p ∈ e.T.kvs, p.1.size ≤ 100
/-- What an append to a row of another type turns, if anything. -/
def Elsewhere (w : World) (row : Option Nat) : Prop := ∀ g, row = some g → ∃ cs t, w.heap[g]? = some (.cells cs t (0, 0)) ∧ t ≠ 110 ∧ t ≠ 38
theorem TreeAt.grown {w w' : World} {row : Option Nat} (hg : w.grownBy w' row) (hr : Elsewhere w row) : ∀ {T : Tr}, TreeAt w T → TreeAt w' T
  | .nil, _ => trivial
  | .node b k v wt l r, ⟨h1, h2, h3⟩ => ⟨(hg.block b h1.lt (fun e => by
      obtain ⟨cs, t, h4, h5, _⟩ := hr b e.symm
      unfold NodeAt at h1
      rw [h1] at h4
      cases h4
      exact h5 rfl)).trans h1, TreeAt.grown hg hr h2, TreeAt.grown hg hr h3⟩
theorem EntOk.grown {w w' : World} {row : Option Nat} {m : Nat} {e : Ent} (h : EntOk w m e) (hg : w.grownBy w' row) (hr : Elsewhere w row) : EntOk w' m e := by
  have hty : ∀ b o, e.A = some ⟨b, o, none⟩ → w'.heap[b]? = w.heap[b]? := fun b o he => by
    obtain ⟨cs, h1⟩ := h.ty b o he
    refine hg.block b (Array.getElem?_eq_some_iff.1 h1).1 (fun e' => ?_)
    obtain ⟨cs', t, h4, _, h6⟩ := hr b e'.symm
    rw [h1] at h4
    cases h4
    exact h6 rfl
  refine ⟨h.tree.grown hg hr, ⟨h.pairs.hlen, h.pairs.hmax, fun i x hi => ?_⟩, h.ok, fun b o he => ?_, h.asc, h.heap, h.few, h.keys⟩
  · obtain ⟨b, o, e1, e2, e3⟩ := h.pairs.cells i x hi
    refine ⟨b, o, e1, Nat.lt_of_lt_of_le e2 hg.size, fun j v hj => ?_⟩
    rw [← e3 j v hj]
    simp only [World.cell?, hty b o e1]
  · obtain ⟨cs, h1⟩ := h.ty b o he
    exact ⟨cs, (hty b o he).trans h1⟩
theorem EntOk.below {w w' : World} {m : Nat} {e : Ent} (h : EntOk w m e) (hb : Below w.heap.size w w') : EntOk w' m e :=
  ⟨h.tree.below hb, h.pairs.below hb, h.ok, h.ty.below hb, h.asc, h.heap, h.few, h.keys⟩
theorem EntOk.mono {w : World} {m m' : Nat} {e : Ent} (h : EntOk w m e) (hm : m ≤ m') : EntOk w m' e := ⟨h.tree, h.pairs, h.ok, h.ty, h.asc, h.heap, Nat.le_trans h.few hm, h.keys⟩
theorem EntOk.nil (w : World) : EntOk w 0 ⟨.nil, none, 0, 0⟩ := ⟨trivial, pairs_none, .inl ⟨rfl, rfl, rfl⟩, (fun b o e => (by cases e)), List.Pairwise.nil, trivial, Nat.le_refl _, (fun p hp => (by simp [Tr.kvs, Tr.sh, Sh.kv] at hp))⟩
end Go.Proofs.Ytkngadbeflepoaa
namespace Go.Proofs.Ytkngadbeflepoaa
open Go.RowKit
/-- What the document's Do holds: the command, the reply that is not told yet. -/
structure RefI (w0 : World) (c : CmdV) (w : World) : Prop where
  bc : CmdAt w w0.heap.size c
  r1 : RepAt w (w0.heap.size + 1) 0 ByteArray.empty
  bel : Below w0.heap.size w0 w
theorem RefI.below {w0 w w' : World} {c : CmdV} (h : RefI w0 c w) (hb : Below w.heap.size w w') : RefI w0 c w' := ⟨h.bc.below hb, h.r1.below hb, h.bel.trans (hb.mono h.bel.size)⟩
theorem put_kv' {S : Sh} (h : Asc S.kv) (k v : ByteArray) : (putSh k v S (S.look k)).kv = insL S.kv k v := step_kv h ⟨1, k, v⟩
theorem del_kv' {S : Sh} (h : Asc S.kv) (k : ByteArray) : (delSh k S (S.look k)).kv = rmL S.kv k := step_kv h ⟨0, k, ByteArray.empty⟩
end Go.Proofs.Ytkngadbeflepoaa
