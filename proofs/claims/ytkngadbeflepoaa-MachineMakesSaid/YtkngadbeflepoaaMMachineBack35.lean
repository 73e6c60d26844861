/- Readers: machine.Of. Condition: the bytes fit in memory. -/
import Derived.Test.YtkngadbeflepoaaMMachineBack34
import Derived.Test.YtkngadbeflepoaaMMachineBack18
import Derived.Test.YtkngadbeflepoaaMMachineBack11
namespace Go.Proofs.Ytkngadbeflepoaa
open Go.RowKit

/-- May a machine's sets be? -/
def setsOk (M : MacV) : Bool := mayS M.mem M.all && decide (M.all = bothS M.all M.all) && decide (M.mem = bothS M.mem M.mem)
theorem both_bel (x y : Nat) (hx : x < 256) (hy : y < 256) (w : World) : Calls Try.prog 60 #[.int .u8 (x : Int), .int .u8 (y : Int)] w fun e w' => e = .returned (.int .u8 (bothS x y : Int)) ∧ Below w.heap.size w w' :=
  (both_any x y hx hy w).mono fun e w' h => ⟨h.1, by rw [← h.2]; exact Below.refl _ _⟩
theorem mayS_bel (x y : Nat) (hx : x < 256) (hy : y < 256) (w : World) : Calls Try.prog 59 #[.int .u8 (x : Int), .int .u8 (y : Int)] w fun e w' => e = .returned (.bool (mayS x y)) ∧ Below w.heap.size w w' :=
  (mayS_any x y hx hy w).mono fun e w' h => ⟨h.1, by rw [← h.2]; exact Below.refl _ _⟩
def partV (M : MacV) (P : Option Addr) : Value := .agg (macCells M P).toArray
set_option maxRecDepth 100000 in
set_option maxHeartbeats 8000000 in
theorem sets_any (M : MacV) (P : Option Addr) (w : World) (ha : M.all < 256) (hm : M.mem < 256) :
    Calls Try.prog 85 #[.agg (macCells M P).toArray] w fun e w' => e = .returned (.bool (setsOk M)) ∧ Below w.heap.size w w' := by
  have hb1 := (Below.refl w.heap.size w).alloc (Nat.le_refl _) (.cells (macCells M P).toArray 67)
  have hp1 : PartAt (w.alloc (.cells (macCells M P).toArray 67)) w.heap.size M P := heap_alloc_new _ _
  obtain ⟨ok, hok⟩ : ∃ b, setsOk M = b := ⟨_, rfl⟩
  have hok0 := hok
  rw [hok]
  unfold setsOk at hok0
  have Hm := Lib.hid (fun y : World => mayS_bel M.mem M.all hm ha y)
  have H1 := Lib.hid (fun y : World => both_bel M.all M.all ha ha y)
  have H2 := Lib.hid (fun y : World => both_bel M.mem M.mem hm hm y)
  generalize mayS M.mem M.all = b1 at *
  generalize bothS M.all M.all = q1 at *
  generalize bothS M.mem M.mem = q2 at *
  have e1 : ((M.all : Int) == (q1 : Int)) = decide (M.all = q1) := by
    by_cases h : M.all = q1
    · simp [h]
    · simp [h]; omega
  have e2 : ((M.mem : Int) == (q2 : Int)) = decide (M.mem = q2) := by
    by_cases h : M.mem = q2
    · simp [h]
    · simp [h]; omega
  generalize decide (M.all = q1) = b2 at *
  generalize decide (M.mem = q2) = b3 at *
  have Hok := Lib.hid hok0; clear hok0 hok
  rw [mac_eta]
  go_enter Try.func85, Try.ntmps85
  go_upto_region 1 with fail
  change Code.wp _ _ _ _ (w.alloc (.cells (macCells M P).toArray 67))
  generalize w.alloc (.cells (macCells M P).toArray 67) = w1 at *
  have Hp1 := Lib.hid hp1; clear hp1
  have Hb1 := Lib.hid hb1; clear hb1
  cases b1 with
  | false =>
    refine (wpIn_wide (n := 1)).1 ?_
    refine RegJ.wpIn_region_plan (F := Fence.wide) (KeptW w1) (.step 0 0 (.step 1 0 (.step 2 0 (.step 3 0 (.step 4 1 (.step 5 0 (.step 6 0 (.step 7 0 (.step 8 0 (.step 9 0 (.step 10 0 (.step 11 0 (.step 12 1 (.step 13 0 (.step 14 0 (.step 15 0 (.step 16 0 (.step 17 0 (.step 18 0 (.step 19 0 (.step 20 0 (.step 21 0 (.step 22 1 (.step 23 0 (.step 24 0 (.step 25 0 .nil)))))))))))))))))))))))))) (by kernel_rfl) (by kernel_rfl) (by kernel_rfl) (fun _ _ d _ _ h => by cases d <;> exact h) ⟨rfl, rfl, rfl, Nat.le_refl _, fun _ _ => rfl⟩ ?_
    dsimp only [RegJ.pickJ, List.getElem?_cons_zero, List.getElem?_cons_succ]
    change RegJ.Can _ _ _ _ _ _ _ _ w1.drew
    have hkd : KeptW w1 w1.drew := ⟨rfl, rfl, rfl, Nat.le_refl _, fun _ _ => rfl⟩
    generalize w1.drew = v1 at *
    refine RegJ.reads ?_; intro K hK; go_simp; (first | refine ⟨_, fun _ _ => rfl, hK _ ?_⟩ | refine hK _ ?_); clear hK K
    refine RegJ.reads ?_
    intro K hK
    go_simp
    refine ⟨.int .u8 (M.mem : Int), fun y hy => ?_, hK _ ?_⟩
    · obtain ⟨f0, f1, f14⟩ := (show PartAt y w.heap.size M P from ((KeptW.bel hy).block _ (Array.getElem?_eq_some_iff.1 Hp1.out).1).trans Hp1.out).cells
      go_simp
    clear hK K
    refine RegJ.reads ?_; intro K hK; go_simp; (first | refine ⟨_, fun _ _ => rfl, hK _ ?_⟩ | refine hK _ ?_); clear hK K
    refine RegJ.reads ?_
    intro K hK
    go_simp
    refine ⟨.int .u8 (M.all : Int), fun y hy => ?_, hK _ ?_⟩
    · obtain ⟨f0, f1, f14⟩ := (show PartAt y w.heap.size M P from ((KeptW.bel hy).block _ (Array.getElem?_eq_some_iff.1 Hp1.out).1).trans Hp1.out).cells
      go_simp
    clear hK K
    refine RegJ.turns (fun _ => trivial) ?_
    intro K K0 hK hK0
    go_simp
    refine ⟨trivial, ?_⟩
    refine (callsIn_wide.2 (Hm.out v1)).mono ?_
    rintro e v2 ⟨rfl, hb7⟩
    have v2k : KeptW w1 v2 := KeptW.mono hkd hb7
    refine hK _ _ _ (fun _ h => h) v2k ?_
    clear hK K hK0 K0
    iterate 2 (refine RegJ.reads ?_; intro K hK; go_simp; (first | refine ⟨_, fun _ _ => rfl, hK _ ?_⟩ | refine hK _ ?_); clear hK K)
    (refine RegJ.reads ?_; intro K hK; go_simp; refine hK _ ?_; clear hK K)
    refine RegJ.reads ?_; intro K hK; go_simp; (first | refine ⟨_, fun _ _ => rfl, hK _ ?_⟩ | refine hK _ ?_); clear hK K
    (refine RegJ.reads ?_; intro K hK; go_simp; refine hK _ ?_; clear hK K)
    refine RegJ.reads ?_; intro K hK; go_simp; (first | refine ⟨_, fun _ _ => rfl, hK _ ?_⟩ | refine hK _ ?_); clear hK K
    (refine RegJ.reads ?_; intro K hK; go_simp; refine hK _ ?_; clear hK K)
    (refine RegJ.turns (fun _ => trivial) ?_; intro K K0 hK hK0; go_simp; refine hK0 _ ?_; clear hK K hK0 K0)
    iterate 4 (refine RegJ.reads ?_; intro K hK; go_simp; (first | refine ⟨_, fun _ _ => rfl, hK _ ?_⟩ | refine hK _ ?_); clear hK K)
    (refine RegJ.reads ?_; intro K hK; go_simp; refine hK _ ?_; clear hK K)
    refine RegJ.reads ?_; intro K hK; go_simp; (first | refine ⟨_, fun _ _ => rfl, hK _ ?_⟩ | refine hK _ ?_); clear hK K
    (refine RegJ.reads ?_; intro K hK; go_simp; refine hK _ ?_; clear hK K)
    refine RegJ.reads ?_; intro K hK; go_simp; (first | refine ⟨_, fun _ _ => rfl, hK _ ?_⟩ | refine hK _ ?_); clear hK K
    (refine RegJ.reads ?_; intro K hK; go_simp; refine hK _ ?_; clear hK K)
    (refine RegJ.turns (fun _ => trivial) ?_; intro K K0 hK hK0; go_simp; refine hK0 _ ?_; clear hK K hK0 K0)
    iterate 3 (refine RegJ.reads ?_; intro K hK; go_simp; (first | refine ⟨_, fun _ _ => rfl, hK _ ?_⟩ | refine hK _ ?_); clear hK K)
    refine RegJ.nil ?_
    have HJ := Lib.hid (Hb1.out.trans ((KeptW.bel v2k).mono Hb1.out.size))
    go_wp2_with fail
    go_ret
    exact ⟨by rw [← Hok.out]; rfl, HJ.out⟩
  | true =>
  cases b2 with
  | false =>
    refine (wpIn_wide (n := 1)).1 ?_
    refine RegJ.wpIn_region_plan (F := Fence.wide) (KeptW w1) (.step 0 0 (.step 1 0 (.step 2 0 (.step 3 0 (.step 4 1 (.step 5 0 (.step 6 0 (.step 7 0 (.step 8 0 (.step 9 0 (.step 10 0 (.step 11 0 (.step 12 1 (.step 13 0 (.step 14 0 (.step 15 0 (.step 16 0 (.step 17 0 (.step 18 0 (.step 19 0 (.step 20 0 (.step 21 0 (.step 22 1 (.step 23 0 (.step 24 0 (.step 25 0 .nil)))))))))))))))))))))))))) (by kernel_rfl) (by kernel_rfl) (by kernel_rfl) (fun _ _ d _ _ h => by cases d <;> exact h) ⟨rfl, rfl, rfl, Nat.le_refl _, fun _ _ => rfl⟩ ?_
    dsimp only [RegJ.pickJ, List.getElem?_cons_zero, List.getElem?_cons_succ]
    change RegJ.Can _ _ _ _ _ _ _ _ w1.drew
    have hkd : KeptW w1 w1.drew := ⟨rfl, rfl, rfl, Nat.le_refl _, fun _ _ => rfl⟩
    generalize w1.drew = v1 at *
    refine RegJ.reads ?_; intro K hK; go_simp; (first | refine ⟨_, fun _ _ => rfl, hK _ ?_⟩ | refine hK _ ?_); clear hK K
    refine RegJ.reads ?_
    intro K hK
    go_simp
    refine ⟨.int .u8 (M.mem : Int), fun y hy => ?_, hK _ ?_⟩
    · obtain ⟨f0, f1, f14⟩ := (show PartAt y w.heap.size M P from ((KeptW.bel hy).block _ (Array.getElem?_eq_some_iff.1 Hp1.out).1).trans Hp1.out).cells
      go_simp
    clear hK K
    refine RegJ.reads ?_; intro K hK; go_simp; (first | refine ⟨_, fun _ _ => rfl, hK _ ?_⟩ | refine hK _ ?_); clear hK K
    refine RegJ.reads ?_
    intro K hK
    go_simp
    refine ⟨.int .u8 (M.all : Int), fun y hy => ?_, hK _ ?_⟩
    · obtain ⟨f0, f1, f14⟩ := (show PartAt y w.heap.size M P from ((KeptW.bel hy).block _ (Array.getElem?_eq_some_iff.1 Hp1.out).1).trans Hp1.out).cells
      go_simp
    clear hK K
    refine RegJ.turns (fun _ => trivial) ?_
    intro K K0 hK hK0
    go_simp
    refine ⟨trivial, ?_⟩
    refine (callsIn_wide.2 (Hm.out v1)).mono ?_
    rintro e v2 ⟨rfl, hb7⟩
    have v2k : KeptW w1 v2 := KeptW.mono hkd hb7
    refine hK _ _ _ (fun _ h => h) v2k ?_
    clear hK K hK0 K0
    iterate 2 (refine RegJ.reads ?_; intro K hK; go_simp; (first | refine ⟨_, fun _ _ => rfl, hK _ ?_⟩ | refine hK _ ?_); clear hK K)
    refine RegJ.reads ?_
    intro K hK
    go_simp
    refine ⟨.int .u8 (M.all : Int), fun y hy => ?_, hK _ ?_⟩
    · obtain ⟨f0, f1, f14⟩ := (show PartAt y w.heap.size M P from ((KeptW.bel hy).block _ (Array.getElem?_eq_some_iff.1 Hp1.out).1).trans Hp1.out).cells
      go_simp
    clear hK K
    refine RegJ.reads ?_; intro K hK; go_simp; (first | refine ⟨_, fun _ _ => rfl, hK _ ?_⟩ | refine hK _ ?_); clear hK K
    refine RegJ.reads ?_
    intro K hK
    go_simp
    refine ⟨.int .u8 (M.all : Int), fun y hy => ?_, hK _ ?_⟩
    · obtain ⟨f0, f1, f14⟩ := (show PartAt y w.heap.size M P from ((KeptW.bel hy).block _ (Array.getElem?_eq_some_iff.1 Hp1.out).1).trans Hp1.out).cells
      go_simp
    clear hK K
    refine RegJ.reads ?_; intro K hK; go_simp; (first | refine ⟨_, fun _ _ => rfl, hK _ ?_⟩ | refine hK _ ?_); clear hK K
    refine RegJ.reads ?_
    intro K hK
    go_simp
    refine ⟨.int .u8 (M.all : Int), fun y hy => ?_, hK _ ?_⟩
    · obtain ⟨f0, f1, f14⟩ := (show PartAt y w.heap.size M P from ((KeptW.bel hy).block _ (Array.getElem?_eq_some_iff.1 Hp1.out).1).trans Hp1.out).cells
      go_simp
    clear hK K
    refine RegJ.turns (fun _ => trivial) ?_
    intro K K0 hK hK0
    go_simp
    refine ⟨trivial, ?_⟩
    refine (callsIn_wide.2 (H1.out v2)).mono ?_
    rintro e v3 ⟨rfl, hb7⟩
    have v3k : KeptW w1 v3 := KeptW.mono v2k hb7
    refine hK _ _ _ (fun _ h => h) v3k ?_
    clear hK K hK0 K0
    iterate 4 (refine RegJ.reads ?_; intro K hK; go_simp; (first | refine ⟨_, fun _ _ => rfl, hK _ ?_⟩ | refine hK _ ?_); clear hK K)
    (refine RegJ.reads ?_; intro K hK; go_simp; refine hK _ ?_; clear hK K)
    refine RegJ.reads ?_; intro K hK; go_simp; (first | refine ⟨_, fun _ _ => rfl, hK _ ?_⟩ | refine hK _ ?_); clear hK K
    (refine RegJ.reads ?_; intro K hK; go_simp; refine hK _ ?_; clear hK K)
    refine RegJ.reads ?_; intro K hK; go_simp; (first | refine ⟨_, fun _ _ => rfl, hK _ ?_⟩ | refine hK _ ?_); clear hK K
    (refine RegJ.reads ?_; intro K hK; go_simp; refine hK _ ?_; clear hK K)
    (refine RegJ.turns (fun _ => trivial) ?_; intro K K0 hK hK0; go_simp; refine hK0 _ ?_; clear hK K hK0 K0)
    iterate 3 (refine RegJ.reads ?_; intro K hK; go_simp; (first | refine ⟨_, fun _ _ => rfl, hK _ ?_⟩ | refine hK _ ?_); clear hK K)
    refine RegJ.nil ?_
    have HJ := Lib.hid (Hb1.out.trans ((KeptW.bel v3k).mono Hb1.out.size))
    go_wp2_with fail
    go_ret
    exact ⟨by rw [← Hok.out]; rfl, HJ.out⟩
  | true =>
    refine (wpIn_wide (n := 1)).1 ?_
    refine RegJ.wpIn_region_plan (F := Fence.wide) (KeptW w1) (.step 0 0 (.step 1 0 (.step 2 0 (.step 3 0 (.step 4 1 (.step 5 0 (.step 6 0 (.step 7 0 (.step 8 0 (.step 9 0 (.step 10 0 (.step 11 0 (.step 12 1 (.step 13 0 (.step 14 0 (.step 15 0 (.step 16 0 (.step 17 0 (.step 18 0 (.step 19 0 (.step 20 0 (.step 21 0 (.step 22 1 (.step 23 0 (.step 24 0 (.step 25 0 .nil)))))))))))))))))))))))))) (by kernel_rfl) (by kernel_rfl) (by kernel_rfl) (fun _ _ d _ _ h => by cases d <;> exact h) ⟨rfl, rfl, rfl, Nat.le_refl _, fun _ _ => rfl⟩ ?_
    dsimp only [RegJ.pickJ, List.getElem?_cons_zero, List.getElem?_cons_succ]
    change RegJ.Can _ _ _ _ _ _ _ _ w1.drew
    have hkd : KeptW w1 w1.drew := ⟨rfl, rfl, rfl, Nat.le_refl _, fun _ _ => rfl⟩
    generalize w1.drew = v1 at *
    refine RegJ.reads ?_; intro K hK; go_simp; (first | refine ⟨_, fun _ _ => rfl, hK _ ?_⟩ | refine hK _ ?_); clear hK K
    refine RegJ.reads ?_
    intro K hK
    go_simp
    refine ⟨.int .u8 (M.mem : Int), fun y hy => ?_, hK _ ?_⟩
    · obtain ⟨f0, f1, f14⟩ := (show PartAt y w.heap.size M P from ((KeptW.bel hy).block _ (Array.getElem?_eq_some_iff.1 Hp1.out).1).trans Hp1.out).cells
      go_simp
    clear hK K
    refine RegJ.reads ?_; intro K hK; go_simp; (first | refine ⟨_, fun _ _ => rfl, hK _ ?_⟩ | refine hK _ ?_); clear hK K
    refine RegJ.reads ?_
    intro K hK
    go_simp
    refine ⟨.int .u8 (M.all : Int), fun y hy => ?_, hK _ ?_⟩
    · obtain ⟨f0, f1, f14⟩ := (show PartAt y w.heap.size M P from ((KeptW.bel hy).block _ (Array.getElem?_eq_some_iff.1 Hp1.out).1).trans Hp1.out).cells
      go_simp
    clear hK K
    refine RegJ.turns (fun _ => trivial) ?_
    intro K K0 hK hK0
    go_simp
    refine ⟨trivial, ?_⟩
    refine (callsIn_wide.2 (Hm.out v1)).mono ?_
    rintro e v2 ⟨rfl, hb7⟩
    have v2k : KeptW w1 v2 := KeptW.mono hkd hb7
    refine hK _ _ _ (fun _ h => h) v2k ?_
    clear hK K hK0 K0
    iterate 2 (refine RegJ.reads ?_; intro K hK; go_simp; (first | refine ⟨_, fun _ _ => rfl, hK _ ?_⟩ | refine hK _ ?_); clear hK K)
    refine RegJ.reads ?_
    intro K hK
    go_simp
    refine ⟨.int .u8 (M.all : Int), fun y hy => ?_, hK _ ?_⟩
    · obtain ⟨f0, f1, f14⟩ := (show PartAt y w.heap.size M P from ((KeptW.bel hy).block _ (Array.getElem?_eq_some_iff.1 Hp1.out).1).trans Hp1.out).cells
      go_simp
    clear hK K
    refine RegJ.reads ?_; intro K hK; go_simp; (first | refine ⟨_, fun _ _ => rfl, hK _ ?_⟩ | refine hK _ ?_); clear hK K
    refine RegJ.reads ?_
    intro K hK
    go_simp
    refine ⟨.int .u8 (M.all : Int), fun y hy => ?_, hK _ ?_⟩
    · obtain ⟨f0, f1, f14⟩ := (show PartAt y w.heap.size M P from ((KeptW.bel hy).block _ (Array.getElem?_eq_some_iff.1 Hp1.out).1).trans Hp1.out).cells
      go_simp
    clear hK K
    refine RegJ.reads ?_; intro K hK; go_simp; (first | refine ⟨_, fun _ _ => rfl, hK _ ?_⟩ | refine hK _ ?_); clear hK K
    refine RegJ.reads ?_
    intro K hK
    go_simp
    refine ⟨.int .u8 (M.all : Int), fun y hy => ?_, hK _ ?_⟩
    · obtain ⟨f0, f1, f14⟩ := (show PartAt y w.heap.size M P from ((KeptW.bel hy).block _ (Array.getElem?_eq_some_iff.1 Hp1.out).1).trans Hp1.out).cells
      go_simp
    clear hK K
    refine RegJ.turns (fun _ => trivial) ?_
    intro K K0 hK hK0
    go_simp
    refine ⟨trivial, ?_⟩
    refine (callsIn_wide.2 (H1.out v2)).mono ?_
    rintro e v3 ⟨rfl, hb7⟩
    have v3k : KeptW w1 v3 := KeptW.mono v2k hb7
    refine hK _ _ _ (fun _ h => h) v3k ?_
    clear hK K hK0 K0
    iterate 4 (refine RegJ.reads ?_; intro K hK; go_simp; (first | refine ⟨_, fun _ _ => rfl, hK _ ?_⟩ | refine hK _ ?_); clear hK K)
    refine RegJ.reads ?_
    intro K hK
    go_simp
    refine ⟨.int .u8 (M.mem : Int), fun y hy => ?_, hK _ ?_⟩
    · obtain ⟨f0, f1, f14⟩ := (show PartAt y w.heap.size M P from ((KeptW.bel hy).block _ (Array.getElem?_eq_some_iff.1 Hp1.out).1).trans Hp1.out).cells
      go_simp
    clear hK K
    refine RegJ.reads ?_; intro K hK; go_simp; (first | refine ⟨_, fun _ _ => rfl, hK _ ?_⟩ | refine hK _ ?_); clear hK K
    refine RegJ.reads ?_
    intro K hK
    go_simp
    refine ⟨.int .u8 (M.mem : Int), fun y hy => ?_, hK _ ?_⟩
    · obtain ⟨f0, f1, f14⟩ := (show PartAt y w.heap.size M P from ((KeptW.bel hy).block _ (Array.getElem?_eq_some_iff.1 Hp1.out).1).trans Hp1.out).cells
      go_simp
    clear hK K
    refine RegJ.reads ?_; intro K hK; go_simp; (first | refine ⟨_, fun _ _ => rfl, hK _ ?_⟩ | refine hK _ ?_); clear hK K
    refine RegJ.reads ?_
    intro K hK
    go_simp
    refine ⟨.int .u8 (M.mem : Int), fun y hy => ?_, hK _ ?_⟩
    · obtain ⟨f0, f1, f14⟩ := (show PartAt y w.heap.size M P from ((KeptW.bel hy).block _ (Array.getElem?_eq_some_iff.1 Hp1.out).1).trans Hp1.out).cells
      go_simp
    clear hK K
    refine RegJ.turns (fun _ => trivial) ?_
    intro K K0 hK hK0
    go_simp
    refine ⟨trivial, ?_⟩
    refine (callsIn_wide.2 (H2.out v3)).mono ?_
    rintro e v4 ⟨rfl, hb7⟩
    have v4k : KeptW w1 v4 := KeptW.mono v3k hb7
    refine hK _ _ _ (fun _ h => h) v4k ?_
    clear hK K hK0 K0
    iterate 3 (refine RegJ.reads ?_; intro K hK; go_simp; (first | refine ⟨_, fun _ _ => rfl, hK _ ?_⟩ | refine hK _ ?_); clear hK K)
    refine RegJ.nil ?_
    have HJ := Lib.hid (Hb1.out.trans ((KeptW.bel v4k).mono Hb1.out.size))
    go_wp2_with fail
    go_ret
    exact ⟨by rw [← Hok.out]; rfl, HJ.out⟩
end Go.Proofs.Ytkngadbeflepoaa
/- Readers: what machine.Of tells; where it has its variables. No condition. -/
namespace Go.Proofs.Ytkngadbeflepoaa
open Go.RowKit

/-- A machine being read: behind so many of the four steps. -/
def ofStep (i : Nat) (X : RdV × MacV) : RdV × MacV :=
  if i = 0 then (X.1.byte.2, { X.2 with all := X.1.byte.1.toNat }) else if i = 1 then (X.1.byte.2, { X.2 with mem := X.1.byte.1.toNat }) else if i = 2 then (X.1.tab.2, { X.2 with tab := X.1.tab.1 }) else (X.1.keys.2, { X.2 with sh := X.1.keys.1 })
theorem ofStep_0 (X : RdV × MacV) : ofStep 0 X = (X.1.byte.2, { X.2 with all := X.1.byte.1.toNat }) := by unfold ofStep; rw [if_pos rfl]
theorem ofStep_1 (X : RdV × MacV) : ofStep 1 X = (X.1.byte.2, { X.2 with mem := X.1.byte.1.toNat }) := by unfold ofStep; rw [if_neg (by decide), if_pos rfl]
theorem ofStep_2 (X : RdV × MacV) : ofStep 2 X = (X.1.tab.2, { X.2 with tab := X.1.tab.1 }) := by unfold ofStep; rw [if_neg (by decide), if_neg (by decide), if_pos rfl]
theorem ofStep_3 (X : RdV × MacV) : ofStep 3 X = (X.1.keys.2, { X.2 with sh := X.1.keys.1 }) := by unfold ofStep; rw [if_neg (by decide), if_neg (by decide), if_neg (by decide)]
/-- From step i on, n steps: the machine and the reader, or the first error. -/
def ofL : Nat → Nat → RdV × MacV → RdV × MacV
  | 0, _, X => X
  | n + 1, i, X => if (ofStep i X).1.e = 0 then ofL n (i + 1) (ofStep i X) else ofStep i X
def ofRes (X : RdV × MacV) : MacV × Nat :=
  if X.1.e = 0 then (if X.1.end_.e = 0 then (if setsOk X.2 = true then (X.2, 0) else (macNone, 4)) else (macNone, X.1.end_.e)) else (macNone, X.1.e)
/-- What machine.Of tells. -/
def ofM (s : List UInt8) : MacV × Nat := ofRes (ofL 4 0 (⟨0, s⟩, macNone))
def funcsV (g4 g5 : Nat) : List Value := [.func (.func 76) #[] #[.pointer (some ⟨g4, 0, none⟩), .pointer (some ⟨g5, 0, none⟩)], .func (.func 78) #[] #[.pointer (some ⟨g4, 0, none⟩), .pointer (some ⟨g5, 0, none⟩)], .func (.func 79) #[] #[.pointer (some ⟨g4, 0, none⟩), .pointer (some ⟨g5, 0, none⟩)], .func (.func 81) #[] #[.pointer (some ⟨g4, 0, none⟩), .pointer (some ⟨g5, 0, none⟩)]]
def ofW (w : World) (s : List UInt8) : World :=
  ((((w.alloc (.cells (macCells macNone none).toArray 69)).alloc (.cells (rdCells ⟨0, s⟩).toArray 174)).alloc (.cells #[.pointer (some ⟨w.heap.size + 1, 0, none⟩)] 141)).alloc (.cells (macCells macNone none).toArray 67)).alloc (.cells (funcsV (w.heap.size + 1 + 1) (w.heap.size + 1 + 1 + 1)).toArray 1)
/-- Where machine.Of has its variables. -/
structure OfI (w0 : World) (X : RdV × MacV) (T : Tr) (w : World) : Prop where
  res : MacAt w w0.heap.size macNone none
  pt : PtI (w0.heap.size + 1) (w0.heap.size + 1 + 1) (w0.heap.size + 1 + 1 + 1) X.1 X.2 T w
  fn : w.heap[w0.heap.size + 1 + 1 + 1 + 1]? = some (.cells (funcsV (w0.heap.size + 1 + 1) (w0.heap.size + 1 + 1 + 1)).toArray 1 (0, 0))
  bel : Below w0.heap.size w0 w
  sml : X.2.all < 256 ∧ X.2.mem < 256
theorem of_start (w : World) (s : List UInt8) (hs : s.length ≤ maxLen) : OfI w (⟨0, s⟩, macNone) .nil (ofW w s) := by
  unfold ofW
  obtain ⟨w1, e1⟩ : ∃ x, w.alloc (.cells (macCells macNone none).toArray 69) = x := ⟨_, rfl⟩
  have s1 : w1.heap.size = w.heap.size + 1 := by rw [← e1]; simp
  have a1 : w1.heap[w.heap.size]? = some (.cells (macCells macNone none).toArray 69 (0, 0)) := by rw [← e1]; exact heap_alloc_new _ _
  have b1 : Below w.heap.size w w1 := by rw [← e1]; exact (Below.refl _ _).alloc (Nat.le_refl _) _
  rw [e1]
  obtain ⟨w2, e2⟩ : ∃ x, w1.alloc (.cells (rdCells ⟨0, s⟩).toArray 174) = x := ⟨_, rfl⟩
  have s2 : w2.heap.size = w.heap.size + 2 := by rw [← e2]; simp [s1]
  have a2 : w2.heap[w.heap.size + 1]? = some (.cells (rdCells ⟨0, s⟩).toArray 174 (0, 0)) := by rw [← e2, ← s1]; exact heap_alloc_new _ _
  have b2 : Below w1.heap.size w1 w2 := by rw [← e2]; exact (Below.refl _ _).alloc (Nat.le_refl _) _
  rw [e2]
  obtain ⟨w3, e3⟩ : ∃ x, w2.alloc (.cells #[.pointer (some ⟨w.heap.size + 1, 0, none⟩)] 141) = x := ⟨_, rfl⟩
  have s3 : w3.heap.size = w.heap.size + 3 := by rw [← e3]; simp [s2]
  have a3 : w3.heap[w.heap.size + 2]? = some (.cells #[.pointer (some ⟨w.heap.size + 1, 0, none⟩)] 141 (0, 0)) := by rw [← e3, ← s2]; exact heap_alloc_new _ _
  have b3 : Below w2.heap.size w2 w3 := by rw [← e3]; exact (Below.refl _ _).alloc (Nat.le_refl _) _
  rw [e3]
  obtain ⟨w4, e4⟩ : ∃ x, w3.alloc (.cells (macCells macNone none).toArray 67) = x := ⟨_, rfl⟩
  have s4 : w4.heap.size = w.heap.size + 4 := by rw [← e4]; simp [s3]
  have a4 : w4.heap[w.heap.size + 3]? = some (.cells (macCells macNone none).toArray 67 (0, 0)) := by rw [← e4, ← s3]; exact heap_alloc_new _ _
  have b4 : Below w3.heap.size w3 w4 := by rw [← e4]; exact (Below.refl _ _).alloc (Nat.le_refl _) _
  rw [e4]
  obtain ⟨w5, e5⟩ : ∃ x, w4.alloc (.cells (funcsV (w.heap.size + 1 + 1) (w.heap.size + 1 + 1 + 1)).toArray 1) = x := ⟨_, rfl⟩
  have a5 : w5.heap[w.heap.size + 4]? = some (.cells (funcsV (w.heap.size + 1 + 1) (w.heap.size + 1 + 1 + 1)).toArray 1 (0, 0)) := by rw [← e5, ← s4]; exact heap_alloc_new _ _
  have b5 : Below w4.heap.size w4 w5 := by rw [← e5]; exact (Below.refl _ _).alloc (Nat.le_refl _) _
  rw [e5]
  have c4 := b5
  have c3 := b4.trans (b5.mono b4.size)
  have c2 := b3.trans (c3.mono b3.size)
  have c1 := b2.trans (c2.mono b2.size)
  refine ⟨(c1.block _ (by omega)).trans a1, ⟨⟨(c2.block _ (by omega)).trans a2, hs⟩, (c3.block _ (by omega)).trans a3, (c4.block _ (by omega)).trans a4, trivial, rfl, ⟨by omega, by omega, by omega⟩⟩, a5, b1.trans (c1.mono b1.size), ⟨(show (0 : Nat) < 256 by omega), (show (0 : Nat) < 256 by omega)⟩⟩
theorem OfI.off {w0 w w' : World} {X Y : RdV × MacV} {T U : Tr} (h : OfI w0 X T w) (hp : PtI (w0.heap.size + 1) (w0.heap.size + 1 + 1) (w0.heap.size + 1 + 1 + 1) Y.1 Y.2 U w') (ho : Off [w0.heap.size + 1, w0.heap.size + 1 + 1 + 1] w.heap.size w w') (hs : Y.2.all < 256 ∧ Y.2.mem < 256) : OfI w0 Y U w' :=
  ⟨(ho.block _ h.res.lt (by simp; omega)).trans h.res, hp, (ho.block _ (Array.getElem?_eq_some_iff.1 h.fn).1 (by simp; omega)).trans h.fn, h.bel.trans ((ho.mono h.bel.size).below (by simp; omega)), hs⟩
theorem OfI.below {w0 w w' : World} {X : RdV × MacV} {T : Tr} (h : OfI w0 X T w) (hb : Below w.heap.size w w') : OfI w0 X T w' :=
  ⟨h.res.below hb, ⟨h.pt.rd.below hb, (hb.block _ h.pt.lt.1).trans h.pt.box, (hb.block _ h.pt.lt.2).trans h.pt.p, h.pt.tr.below hb, h.pt.sh, h.pt.ne⟩, (hb.block _ (Array.getElem?_eq_some_iff.1 h.fn).1).trans h.fn, h.bel.trans (hb.mono h.bel.size), h.sml⟩
theorem OfI.only {w0 w w' : World} {X : RdV × MacV} {T : Tr} {R : RdV} (h : OfI w0 X T w) (hr : RdAt w' (w0.heap.size + 1) R) (ho : Only (w0.heap.size + 1) w w') : OfI w0 (R, X.2) T w' :=
  h.off (h.pt.only hr (ho.but _)) (ho.off _ (by simp)) h.sml
/-- The four steps, as one. -/
theorem ofStep_any (i : Nat) (hi : i < 4) (w0 : World) (X : RdV × MacV) (T : Tr) (w : World) (h : OfI w0 X T w) : ∃ f, (funcsV (w0.heap.size + 1 + 1) (w0.heap.size + 1 + 1 + 1))[i]? = some (.func (.func f) #[] #[.pointer (some ⟨w0.heap.size + 1 + 1, 0, none⟩), .pointer (some ⟨w0.heap.size + 1 + 1 + 1, 0, none⟩)]) ∧
    (f = 76 ∨ f = 78 ∨ f = 79 ∨ f = 81) ∧
    Calls Try.prog f #[.pointer (some ⟨w0.heap.size + 1 + 1, 0, none⟩), .pointer (some ⟨w0.heap.size + 1 + 1 + 1, 0, none⟩)] w fun e w' => e = .returned (.tuple #[]) ∧ ∃ U, OfI w0 (ofStep i X) U w' := by
  have h1 : i = 0 ∨ i = 1 ∨ i = 2 ∨ i = 3 := by omega
  rcases h1 with rfl | rfl | rfl | rfl
  · rw [ofStep_0]
    exact ⟨_, rfl, .inl rfl, (step1_any _ _ _ X.1 X.2 T w h.pt).mono fun e w' hh => ⟨hh.1, T, h.off hh.2.1 hh.2.2 ⟨X.1.byte.1.toNat_lt, h.sml.2⟩⟩⟩
  · rw [ofStep_1]
    exact ⟨_, rfl, .inr (.inl rfl), (step2_any _ _ _ X.1 X.2 T w h.pt).mono fun e w' hh => ⟨hh.1, T, h.off hh.2.1 hh.2.2 ⟨h.sml.1, X.1.byte.1.toNat_lt⟩⟩⟩
  · rw [ofStep_2]
    have hs := step3_any _ _ _ X.1 X.2 T w h.pt
    generalize X.1.tab = Q at *
    exact ⟨_, rfl, .inr (.inr (.inl rfl)), hs.mono fun e w' hh => ⟨hh.1, T, h.off (Y := (Q.2, { X.2 with tab := Q.1 })) hh.2.1 hh.2.2 h.sml⟩⟩
  · rw [ofStep_3]
    have hs := step4_any _ _ _ X.1 X.2 T w h.pt
    generalize X.1.keys = Q at *
    refine ⟨_, rfl, .inr (.inr (.inr rfl)), hs.mono fun e w' hh => ?_⟩
    obtain ⟨U, h1, h2, h3⟩ := hh
    exact ⟨h1, U, h.off (Y := (Q.2, { X.2 with sh := Q.1 })) h2 h3 h.sml⟩
theorem OfI.store {w0 w : World} {X : RdV × MacV} {T : Tr} (h : OfI w0 X T w) (M : MacV) (P : Option Addr) : MacAt (rowSt w w0.heap.size 0 (macCells M P)) w0.heap.size M P ∧ (∀ U, TreeAt w U → TreeAt (rowSt w w0.heap.size 0 (macCells M P)) U) ∧ Below w0.heap.size w0 (rowSt w w0.heap.size 0 (macCells M P)) := by
  obtain ⟨h1, h2, h3, h4⟩ := ma_st h.res M P
  exact ⟨h1, h4, h3 _ _ h.bel (Nat.le_refl _)⟩
end Go.Proofs.Ytkngadbeflepoaa
/- The document's May of a command. No condition. -/
namespace Go.Proofs.Ytkngadbeflepoaa
open Go.RowKit

theorem toList_iff (b : ByteArray) : b.toList = [] ↔ b.size = 0 := by
  rw [ByteArray.toList_eq, show b.size = b.data.size from rfl, ← Array.length_toList]
  exact List.length_eq_zero_iff.symm
/-- May, as the document says it. -/
def may09 (c : CmdV) : Bool :=
  !(decide (3 < (c.client.toNat : Int)) || decide ((c.seq.toNat : Int) < 1) || decide (16 < (c.key.size : Int)) || decide (64 < (c.old.size : Int)) || decide (64 < (c.fresh.size : Int))) &&
    (if ((c.kind.toNat : Int) == 1) = true ∨ ((c.kind.toNat : Int) == 3) = true then decide (¬ c.key.toList = []) && decide (c.old.toList = []) && decide (c.fresh.toList = []) && ((c.set.toNat : Int) == 0)
     else if ((c.kind.toNat : Int) == 2) = true then decide (¬ c.key.toList = []) && decide (c.old.toList = []) && ((c.set.toNat : Int) == 0)
     else if ((c.kind.toNat : Int) == 4) = true then decide (¬ c.key.toList = []) && ((c.set.toNat : Int) == 0)
     else if ((c.kind.toNat : Int) == 5) = true then decide (c.key.toList = []) && decide (c.old.toList = []) && decide (c.fresh.toList = []) else false)
theorem may09_is (c : CmdV) : may09 c = mayC c := by
  unfold may09 mayC
  rw [Bool.eq_iff_iff]
  simp only [toList_iff]
  generalize c.key.size = nk
  generalize c.old.size = no
  generalize c.fresh.size = nf
  generalize c.client.toNat = ncl
  generalize c.seq.toNat = nsq
  generalize c.set.toNat = nst
  by_cases h1 : c.kind = 1
  · simp [h1, hasOf, mostOf]
    omega
  by_cases h2 : c.kind = 2
  · simp [h2, hasOf, mostOf]
    omega
  by_cases h3 : c.kind = 3
  · simp [h3, hasOf, mostOf]
    omega
  by_cases h4 : c.kind = 4
  · simp [h4, hasOf, mostOf]
    omega
  by_cases h5 : c.kind = 5
  · simp [h5, hasOf, mostOf]
    omega
  have g : ∀ k : UInt8, c.kind ≠ k → ¬ (c.kind.toNat : Int) = (k.toNat : Int) := fun k h e => h (UInt8.toNat_inj.1 (by omega))
  have g1 := g 1 h1
  have g2 := g 2 h2
  have g3 := g 3 h3
  have g4 := g 4 h4
  have g5 := g 5 h5
  simp at g1 g2 g3 g4 g5
  simp [h1, h2, h3, h4, h5, hasOf, g1, g2, g3, g4, g5]

set_option maxRecDepth 100000 in
set_option maxHeartbeats 8000000 in
theorem may09_any (c : CmdV) (w : World) : Calls Try.prog 57 #[.agg (cmdCells c).toArray] w fun e w' => e = .returned (.bool (mayC c)) ∧ Below w.heap.size w w' := by
  obtain ⟨B, hB⟩ : ∃ B, mayC c = B := ⟨_, rfl⟩
  rw [hB]
  rw [← may09_is] at hB
  have HB := Lib.hid hB; clear hB
  have hc1 := CmdAt.new w c
  have hb1 := (Below.refl w.heap.size w).alloc (Nat.le_refl _) (.cells (cmdCells c).toArray 56)
  have HC := Lib.hid hc1; clear hc1
  have Hb := Lib.hid hb1; clear hb1
  rw [cmd_eta]
  go_enter Try.func57, Try.ntmps57
  go_upto_region 1 with fail
  change Code.wp _ _ _ _ (w.alloc (.cells (cmdCells c).toArray 56))
  generalize w.alloc (.cells (cmdCells c).toArray 56) = w1 at *
  obtain ⟨d0, d1, d2, d3, d4, d5, d6⟩ := HC.out.cells
  go_wp2_with fail
  all_goals (go_ret; exact ⟨by rw [← HB.out]; first | (simp [may09, *]; done) | (simp [may09, *]; intro _; omega) | (simp [may09, *]; rw [Bool.eq_iff_iff]; simp [*]; done) | (simp [may09, *]; rw [Bool.eq_iff_iff]; simp [*]; omega), Hb.out⟩)
end Go.Proofs.Ytkngadbeflepoaa
