/- The document's machine: its bytes (ref13.Bytes). Condition: codes are bytes, keys and values are not great. -/
import Derived.Test.YtkngadbeflepoaaMMachinePlays27
import Derived.Test.YtkngadbeflepoaaMMachinePlays38
import Derived.Test.YtkngadbeflepoaaMMachinePlays16
namespace Go.Proofs.Ytkngadbeflepoaa
open Go.RowKit

/-- The document's machine lies there: its pairs, its sets, what was kept. -/
structure RefM where
  A : Option Addr
  n : Nat
  c : Nat
  all : Nat
  mem : Nat
  B : Option Addr
  k : Nat
  d : Nat
def refCells (r : RefM) : List Value := [.slice r.A r.n r.c, .int .u8 (r.all : Int), .int .u8 (r.mem : Int), .slice r.B r.k r.d]
structure RefAt (w : World) (r : RefM) (M : MacV) (z : List KeptV) : Prop where
  pairs : PairsAt w r.A r.n M.sh.kv
  keeps : KeptsAt w r.B r.k z
  all : r.all = M.all
  mem : r.mem = M.mem
  tab : KeptTab M.tab z
  ok : POk r.A r.n r.c
  ty : PTy w r.A
  asc : Asc M.sh.kv
  nilB : r.B = none → r.k = 0 ∧ r.d = 0
  kty : STy w 131 r.B
theorem RefAt.below {w w' : World} {r : RefM} {M : MacV} {z : List KeptV} (h : RefAt w r M z) (hb : Below w.heap.size w w') : RefAt w' r M z := ⟨h.pairs.below hb, h.keeps.below hb, h.all, h.mem, h.tab, h.ok, h.ty.below hb, h.asc, h.nilB, h.kty.below hb⟩
theorem ref_eta (r : RefM) : (refCells r).toArray = #[.slice r.A r.n r.c, .int .u8 (r.all : Int), .int .u8 (r.mem : Int), .slice r.B r.k r.d] := rfl
def RefRow (w : World) (g : Nat) (r : RefM) : Prop := w.heap[g]? = some (.cells (refCells r).toArray 79 (0, 0))
theorem RefRow.cells {w : World} {g : Nat} {r : RefM} (h : RefRow w g r) : w.cell? ⟨g, 0, none⟩ = some (.slice r.A r.n r.c) ∧ w.cell? ⟨g, 1, none⟩ = some (.int .u8 (r.all : Int)) ∧ w.cell? ⟨g, 2, none⟩ = some (.int .u8 (r.mem : Int)) ∧ w.cell? ⟨g, 3, none⟩ = some (.slice r.B r.k r.d) :=
  ⟨cell_of_row _ _ _ _ _ _ h, cell_of_row _ _ _ _ _ _ h, cell_of_row _ _ _ _ _ _ h, cell_of_row _ _ _ _ _ _ h⟩
theorem RefRow.lt {w : World} {g : Nat} {r : RefM} (h : RefRow w g r) : g < w.heap.size := (Array.getElem?_eq_some_iff.1 h).1
theorem RefRow.below {w w' : World} {g : Nat} {r : RefM} (h : RefRow w g r) (hb : Below w.heap.size w w') : RefRow w' g r := (hb.block g h.lt).trans h
theorem RefRow.thawed {w : World} {g : Nat} {r : RefM} (h : RefRow w g r) (j : Nat) : w.frozen? ⟨g, j, none⟩ = false := by
  unfold RefRow at h
  simp [World.frozen?, h]
theorem pairsB_take {L : List (ByteArray × ByteArray)} {i : Nat} (hi : i < L.length) : pairsB (L.take (i + 1)) = pairsB (L.take i) ++ (strL (L.getD i pdflt).1 ++ strL (L.getD i pdflt).2) := by
  rw [List.take_succ_eq_append_getElem hi, pairsB_app]
  simp [pairsB, List.getD, List.getElem?_eq_getElem hi]
set_option maxRecDepth 100000 in
set_option maxHeartbeats 16000000 in
theorem rbytes_any (r : RefM) (M : MacV) (z : List KeptV) (hM : MacBy M) (w : World) (h : RefAt w r M z) :
    Calls Try.prog 38 #[.agg (refCells r).toArray] w fun e w' => e = .returned (.string ⟨(macB M).toArray⟩) ∧ Below w.heap.size w w' := by
  have hr1 : RefRow (w.alloc (.cells (refCells r).toArray 79)) w.heap.size r := heap_alloc_new _ _
  have hb1 := (Below.refl w.heap.size w).alloc (Nat.le_refl _) (.cells (refCells r).toArray 79)
  have hn : r.n = M.sh.cnt := by rw [cnt_kv, ← h.pairs.hlen]
  have hcnt := hM.num
  rw [← hn] at hcnt
  have H := Lib.hid h; clear h
  have Hn := Lib.hid hn; clear hn
  rw [ref_eta]
  go_enter Try.func38, Try.ntmps38
  go_upto_region 1 with fail
  change Code.wp _ _ _ _ (w.alloc (.cells (refCells r).toArray 79))
  generalize w.alloc (.cells (refCells r).toArray 79) = w1 at *
  have Hr1 := Lib.hid hr1; clear hr1
  have Hb1 := Lib.hid hb1; clear hb1
  have h8a : ((UInt8.ofNat r.all).toNat : Int) = (r.all : Int) := by have := hM.all; have := H.out.all; simp; omega
  have h8b : ((UInt8.ofNat r.mem).toNat : Int) = (r.mem : Int) := by have := hM.mem; have := H.out.mem; simp; omega
  have Htwo := Lib.hid (fun y : World => (show ReadB (y.alloc (.cells #[.int .u8 (r.all : Int), .int .u8 (r.mem : Int)] 5)) (.slice (some ⟨y.heap.size, 0, none⟩) 2 2) [UInt8.ofNat r.all, UInt8.ofNat r.mem] from ReadB.cells y [UInt8.ofNat r.all, UInt8.ofNat r.mem] 5 _ (by rw [← h8a, ← h8b]; rfl) 2))
  clear h8a h8b
  have Htab := Lib.hid (fun (y : World) (hy : Below w.heap.size w y) => rtab_any r.B r.k r.d z M.tab H.out.tab hM.tab y (H.out.keeps.below hy))
  have Hnum := Lib.hid (fun y : World => rnum_any r.n (by omega) y)
  have hC2 : (⟨[UInt8.ofNat r.all, UInt8.ofNat r.mem].toArray⟩ : ByteArray).size = 2 := rfl
  have hTB : (⟨(tabB M.tab 4).toArray⟩ : ByteArray).size ≤ 17000 := by rw [bs_size]; have := tabB_len hM.tab 4; omega
  have hNL : (⟨(numL r.n).toArray⟩ : ByteArray).size ≤ 9 := by rw [bs_size]; exact (numL_len r.n).1
  obtain ⟨C2, hCe⟩ : ∃ S : ByteArray, (⟨[UInt8.ofNat r.all, UInt8.ofNat r.mem].toArray⟩ : ByteArray) = S := ⟨_, rfl⟩
  obtain ⟨TB, hTe⟩ : ∃ S : ByteArray, (⟨(tabB M.tab 4).toArray⟩ : ByteArray) = S := ⟨_, rfl⟩
  obtain ⟨NL, hNe⟩ : ∃ S : ByteArray, (⟨(numL r.n).toArray⟩ : ByteArray) = S := ⟨_, rfl⟩
  have hhead : (⟨(macHead M).toArray⟩ : ByteArray) = C2 ++ TB ++ NL := by
    unfold macHead
    rw [← str_app2, ← str_app2, ← hCe, ← hTe, ← hNe, H.out.all, H.out.mem, Hn.out]
  rw [hTe] at Htab hTB
  rw [hNe] at Hnum hNL
  rw [hCe] at hC2
  have HCe := Lib.hid hCe
  have Hhead := Lib.hid hhead; clear hhead hCe hTe hNe
  have hCT : (C2 ++ TB).size ≤ 17002 := by rw [ByteArray.size_append]; omega
  have hwrap : IntKind.u64.wrap (r.n : Int) = (r.n : Int) := by rw [IntKind.wrap_u64]; omega
  go_cut [3] (fun s3 wx => s3 = .string (C2 ++ TB ++ NL) ∧ RefRow wx w.heap.size r ∧ Below w.heap.size w wx)
  case first =>
    refine (wpIn_wide (n := 1)).1 ?_
    refine RegJ.wpIn_region_plan (F := Fence.wide) (KeptW w1) (.step 0 0 (.step 1 0 (.step 2 0 (.step 3 0 (.step 6 0 (.step 7 0 (.step 10 0 (.step 11 0 (.step 12 0 (.step 13 0
      (.fork 4 (.step 5 0 (.step 8 1 (.step 9 0 (.step 14 1 (.step 15 0 (.step 16 0 .nil)))))) 8 (.fork 4 (.step 5 0 (.step 9 0 (.step 14 1 (.step 15 0 (.step 16 0 .nil))))) 14 (.step 4 1 (.step 5 0 (.step 9 0 (.step 15 0 (.step 16 0 .nil)))))))))))))))))
      (by kernel_rfl) (by kernel_rfl) (by kernel_rfl) (fun _ _ d _ _ h => by cases d <;> exact h) ⟨rfl, rfl, rfl, Nat.le_refl _, fun _ _ => rfl⟩ ?_
    dsimp only [RegJ.pickJ, List.getElem?_cons_zero, List.getElem?_cons_succ]
    change RegJ.Can _ _ _ _ _ _ _ _ w1.drew
    have hkd : KeptW w1 w1.drew := ⟨rfl, rfl, rfl, Nat.le_refl _, fun _ _ => rfl⟩
    generalize w1.drew = w5 at *
    refine RegJ.reads ?_
    intro K hK
    go_simp
    refine ⟨_, fun _ _ => rfl, hK _ ?_⟩
    clear hK K
    refine RegJ.reads ?_
    intro K hK
    go_simp
    refine ⟨.int .u8 (r.all : Int), fun y hy => ?_, hK _ ?_⟩
    · have f0 := (Hr1.out.below (KeptW.bel hy)).cells.2.1
      go_simp
    clear hK K
    refine RegJ.reads ?_
    intro K hK
    go_simp
    refine ⟨_, fun _ _ => rfl, hK _ ?_⟩
    clear hK K
    refine RegJ.reads ?_
    intro K hK
    go_simp
    refine ⟨.int .u8 (r.mem : Int), fun y hy => ?_, hK _ ?_⟩
    · have f0 := (Hr1.out.below (KeptW.bel hy)).cells.2.2.1
      go_simp
    clear hK K
    refine RegJ.reads ?_
    intro K hK
    go_simp
    refine ⟨_, fun _ _ => rfl, hK _ ?_⟩
    clear hK K
    refine RegJ.reads ?_
    intro K hK
    go_simp
    refine ⟨.slice r.B r.k r.d, fun y hy => ?_, hK _ ?_⟩
    · have f0 := (Hr1.out.below (KeptW.bel hy)).cells.2.2.2
      go_simp
    clear hK K
    refine RegJ.reads ?_
    intro K hK
    go_simp
    refine ⟨_, fun _ _ => rfl, hK _ ?_⟩
    clear hK K
    refine RegJ.reads ?_
    intro K hK
    go_simp
    refine ⟨.slice r.A r.n r.c, fun y hy => ?_, hK _ ?_⟩
    · have f0 := (Hr1.out.below (KeptW.bel hy)).cells.1
      go_simp
    clear hK K
    refine RegJ.reads ?_
    intro K hK
    go_simp
    refine ⟨_, fun _ _ => rfl, hK _ ?_⟩
    clear hK K
    refine RegJ.reads ?_
    intro K hK
    go_simp
    refine ⟨.int .u64 (r.n : Int), fun _ _ => ?_, hK _ ?_⟩
    · first | rfl | rw [hwrap]
    clear hK K
    clear hwrap
    refine RegJ.forks ?_ ?_
    · skip
      refine RegJ.turns (fun _ => trivial) ?_
      intro K K0 hK hK0
      go_simp
      have hbq := (Below.refl w5.heap.size w5).alloc (Nat.le_refl _) (.cells #[.int .u8 (r.all : Int), .int .u8 (r.mem : Int)] 5)
      have q1k : KeptW w1 (w5.alloc (.cells #[.int .u8 (r.all : Int), .int .u8 (r.mem : Int)] 5)) := KeptW.mono hkd hbq
      have hone := Htwo.out w5
      refine hK (KeptW (w5.alloc (.cells #[.int .u8 (r.all : Int), .int .u8 (r.mem : Int)] 5))) _ (w5.alloc (.cells #[.int .u8 (r.all : Int), .int .u8 (r.mem : Int)] 5)) (fun y hy => KeptW.mono q1k (KeptW.bel hy)) (Below.refl _ _) ?_
      clear hK K hK0 K0 hbq
      generalize w5.alloc (.cells #[.int .u8 (r.all : Int), .int .u8 (r.mem : Int)] 5) = q1 at *
      generalize w5.heap.size = gq at *
      refine RegJ.reads ?_
      intro K hK
      go_simp
      refine ⟨.string C2, fun y hy => ?_, hK _ ?_⟩
      · have hcv := (hone.below (KeptW.bel hy)).conv Try.underlying60 Try.underlying5 Try.underlying9
        rw [HCe.out] at hcv
        rw [hcv]
        rfl
      clear hK K
      clear hone
      refine RegJ.turns (fun _ => trivial) ?_
      intro K K0 hK hK0
      go_simp
      refine ⟨trivial, ?_⟩
      refine (callsIn_wide.2 (Htab.out q1 (Hb1.out.trans ((KeptW.bel q1k).mono Hb1.out.size)))).mono ?_
      rintro e w7 ⟨rfl, hb7⟩
      have w7k : KeptW w1 w7 := KeptW.mono q1k hb7
      refine hK _ _ _ (fun _ h => h) (show KeptW q1 w7 from hb7) ?_
      clear hK K hK0 K0
      refine RegJ.reads ?_
      intro K hK
      go_simp
      refine ⟨.string (C2 ++ TB), fun _ _ => ?_, hK _ ?_⟩
      · first | rfl | (rw [if_neg (by omega)]) | (rw [if_neg (by rw [ByteArray.size_append] at hCT; omega)])
      clear hK K
      refine RegJ.turns (fun _ => trivial) ?_
      intro K K0 hK hK0
      go_simp
      refine ⟨trivial, ?_⟩
      refine (callsIn_wide.2 (Hnum.out w7)).mono ?_
      rintro e w8 ⟨rfl, hb7⟩
      have w8k : KeptW w1 w8 := KeptW.mono w7k hb7
      refine hK _ _ _ (fun _ h => h) (show KeptW q1 w8 from KeptW.mono (show KeptW q1 w7 from by assumption) hb7) ?_
      clear hK K hK0 K0
      refine RegJ.reads ?_
      intro K hK
      go_simp
      refine ⟨.string (C2 ++ TB ++ NL), fun _ _ => ?_, hK _ ?_⟩
      · first | rfl | (rw [if_neg (by omega)]) | (rw [if_neg (by rw [ByteArray.size_append] at hCT; omega)])
      clear hK K
      refine RegJ.reads ?_
      intro K hK
      go_simp
      refine ⟨_, fun _ _ => rfl, hK _ ?_⟩
      clear hK K
      refine RegJ.nil ?_
      have Hbe := Lib.hid (Hb1.out.trans ((KeptW.bel w8k).mono Hb1.out.size))
      have HrE := Lib.hid (Hr1.out.below (KeptW.bel w8k))
      go_wp2_with fail
      go_meet
      exact ⟨rfl, HrE.out, Hbe.out⟩
    · skip
      refine RegJ.turns (fun _ => trivial) ?_
      intro K K0 hK hK0
      go_simp
      refine ⟨trivial, ?_⟩
      refine (callsIn_wide.2 (Htab.out w5 (Hb1.out.trans ((KeptW.bel hkd).mono Hb1.out.size)))).mono ?_
      rintro e w7 ⟨rfl, hb7⟩
      have w7k : KeptW w1 w7 := KeptW.mono hkd hb7
      refine hK _ _ _ (fun _ h => h) w7k ?_
      clear hK K hK0 K0
      refine RegJ.forks ?_ ?_
      · skip
        refine RegJ.turns (fun _ => trivial) ?_
        intro K K0 hK hK0
        go_simp
        have hbq := (Below.refl w7.heap.size w7).alloc (Nat.le_refl _) (.cells #[.int .u8 (r.all : Int), .int .u8 (r.mem : Int)] 5)
        have q1k : KeptW w1 (w7.alloc (.cells #[.int .u8 (r.all : Int), .int .u8 (r.mem : Int)] 5)) := KeptW.mono w7k hbq
        have hone := Htwo.out w7
        refine hK (KeptW (w7.alloc (.cells #[.int .u8 (r.all : Int), .int .u8 (r.mem : Int)] 5))) _ (w7.alloc (.cells #[.int .u8 (r.all : Int), .int .u8 (r.mem : Int)] 5)) (fun y hy => KeptW.mono q1k (KeptW.bel hy)) (Below.refl _ _) ?_
        clear hK K hK0 K0 hbq
        generalize w7.alloc (.cells #[.int .u8 (r.all : Int), .int .u8 (r.mem : Int)] 5) = q1 at *
        generalize w7.heap.size = gq at *
        refine RegJ.reads ?_
        intro K hK
        go_simp
        refine ⟨.string C2, fun y hy => ?_, hK _ ?_⟩
        · have hcv := (hone.below (KeptW.bel hy)).conv Try.underlying60 Try.underlying5 Try.underlying9
          rw [HCe.out] at hcv
          rw [hcv]
          rfl
        clear hK K
        clear hone
        refine RegJ.reads ?_
        intro K hK
        go_simp
        refine ⟨.string (C2 ++ TB), fun _ _ => ?_, hK _ ?_⟩
        · first | rfl | (rw [if_neg (by omega)]) | (rw [if_neg (by rw [ByteArray.size_append] at hCT; omega)])
        clear hK K
        refine RegJ.turns (fun _ => trivial) ?_
        intro K K0 hK hK0
        go_simp
        refine ⟨trivial, ?_⟩
        refine (callsIn_wide.2 (Hnum.out q1)).mono ?_
        rintro e w8 ⟨rfl, hb7⟩
        have w8k : KeptW w1 w8 := KeptW.mono q1k hb7
        refine hK _ _ _ (fun _ h => h) (show KeptW q1 w8 from hb7) ?_
        clear hK K hK0 K0
        refine RegJ.reads ?_
        intro K hK
        go_simp
        refine ⟨.string (C2 ++ TB ++ NL), fun _ _ => ?_, hK _ ?_⟩
        · first | rfl | (rw [if_neg (by omega)]) | (rw [if_neg (by rw [ByteArray.size_append] at hCT; omega)])
        clear hK K
        refine RegJ.reads ?_
        intro K hK
        go_simp
        refine ⟨_, fun _ _ => rfl, hK _ ?_⟩
        clear hK K
        refine RegJ.nil ?_
        have Hbe := Lib.hid (Hb1.out.trans ((KeptW.bel w8k).mono Hb1.out.size))
        have HrE := Lib.hid (Hr1.out.below (KeptW.bel w8k))
        go_wp2_with fail
        go_meet
        exact ⟨rfl, HrE.out, Hbe.out⟩
      · skip
        refine RegJ.turns (fun _ => trivial) ?_
        intro K K0 hK hK0
        go_simp
        refine ⟨trivial, ?_⟩
        refine (callsIn_wide.2 (Hnum.out w7)).mono ?_
        rintro e w8 ⟨rfl, hb7⟩
        have w8k : KeptW w1 w8 := KeptW.mono w7k hb7
        refine hK _ _ _ (fun _ h => h) w8k ?_
        clear hK K hK0 K0
        refine RegJ.turns (fun _ => trivial) ?_
        intro K K0 hK hK0
        go_simp
        have hbq := (Below.refl w8.heap.size w8).alloc (Nat.le_refl _) (.cells #[.int .u8 (r.all : Int), .int .u8 (r.mem : Int)] 5)
        have q1k : KeptW w1 (w8.alloc (.cells #[.int .u8 (r.all : Int), .int .u8 (r.mem : Int)] 5)) := KeptW.mono w8k hbq
        have hone := Htwo.out w8
        refine hK (KeptW (w8.alloc (.cells #[.int .u8 (r.all : Int), .int .u8 (r.mem : Int)] 5))) _ (w8.alloc (.cells #[.int .u8 (r.all : Int), .int .u8 (r.mem : Int)] 5)) (fun y hy => KeptW.mono q1k (KeptW.bel hy)) (Below.refl _ _) ?_
        clear hK K hK0 K0 hbq
        generalize w8.alloc (.cells #[.int .u8 (r.all : Int), .int .u8 (r.mem : Int)] 5) = q1 at *
        generalize w8.heap.size = gq at *
        refine RegJ.reads ?_
        intro K hK
        go_simp
        refine ⟨.string C2, fun y hy => ?_, hK _ ?_⟩
        · have hcv := (hone.below (KeptW.bel hy)).conv Try.underlying60 Try.underlying5 Try.underlying9
          rw [HCe.out] at hcv
          rw [hcv]
          rfl
        clear hK K
        clear hone
        refine RegJ.reads ?_
        intro K hK
        go_simp
        refine ⟨.string (C2 ++ TB), fun _ _ => ?_, hK _ ?_⟩
        · first | rfl | (rw [if_neg (by omega)]) | (rw [if_neg (by rw [ByteArray.size_append] at hCT; omega)])
        clear hK K
        refine RegJ.reads ?_
        intro K hK
        go_simp
        refine ⟨.string (C2 ++ TB ++ NL), fun _ _ => ?_, hK _ ?_⟩
        · first | rfl | (rw [if_neg (by omega)]) | (rw [if_neg (by rw [ByteArray.size_append] at hCT; omega)])
        clear hK K
        refine RegJ.reads ?_
        intro K hK
        go_simp
        refine ⟨_, fun _ _ => rfl, hK _ ?_⟩
        clear hK K
        refine RegJ.nil ?_
        have Hbe := Lib.hid (Hb1.out.trans ((KeptW.bel q1k).mono Hb1.out.size))
        have HrE := Lib.hid (Hr1.out.below (KeptW.bel q1k))
        go_wp2_with fail
        go_meet
        exact ⟨rfl, HrE.out, Hbe.out⟩
  case rest =>
  obtain ⟨rfl, hrx, hbx⟩ := hcut
  have Hrx := Lib.hid hrx; clear hrx
  have Hbx := Lib.hid hbx; clear hbx Hb1 Hr1 Htwo Htab Hnum
  generalize wc = w2 at *
  have Hcn := Lib.hid hcnt; clear hcnt
  go_wp2_with fail
  go_loopw [3, 4] (fun s3 s4 wr => ∃ i : Nat, i ≤ r.n ∧ s4 = .int .i64 (i : Int) ∧ s3 = .string ⟨(macHead M ++ pairsB (M.sh.kv.take i)).toArray⟩ ∧ RefRow wr w.heap.size r ∧ Below w.heap.size w wr) (fun _ s4 _ => r.n - (intOf s4).toNat)
  case atStart => exact ⟨0, by omega, rfl, by rw [← Hhead.out]; simp [pairsB], Hrx.out, Hbx.out⟩
  case round =>
    clear Hrx Hbx
    obtain ⟨i, hi, rfl, rfl, hr, hb⟩ := hrel
    have Hr := Lib.hid hr; clear hr
    have Hb := Lib.hid hb; clear hb
    obtain ⟨q0, q1, q2, q3⟩ := Hr.out.cells
    by_cases hlt : i < r.n
    · have hlt' : (i : Int) < (r.n : Int) := by omega
      have hsucc := tsucc (n := i) (by have := Hcn.out; omega)
      have hkvl : M.sh.kv.length = r.n := H.out.pairs.hlen
      obtain ⟨b, o, hA, hbl, c0, c1⟩ := pairs_get (H.out.pairs.below Hb.out) hlt
      have hst := pairsB_take (L := M.sh.kv) (i := i) (by omega)
      have hpo : PairOk (M.sh.kv.getD i pdflt) := hM.kv _ (by rw [List.getD, List.getElem?_eq_getElem (by omega)]; exact List.getElem_mem _)
      have hpl := pairsB_len (M.sh.kv.take i) (fun p hp => hM.kv p (List.mem_of_mem_take hp))
      have hhl := macHead_len hM
      rw [List.length_take] at hpl
      obtain ⟨⟨xk, xv⟩, hx⟩ : ∃ x, M.sh.kv.getD i pdflt = x := ⟨_, rfl⟩
      rw [hx] at c0 c1 hst hpo
      clear hx
      simp only at c0 c1 hst
      have hx1 : xk.size ≤ 4096 := hpo.1
      have hx2 : xv.size ≤ 4096 := hpo.2
      have Hst := Lib.hid hst; clear hst hpo
      have hS : (⟨(macHead M ++ pairsB (M.sh.kv.take i)).toArray⟩ : ByteArray).size ≤ 8400000000 := by rw [bs_size, List.length_append]; have := Hcn.out; omega
      have hK1 : (⟨(strL xk).toArray⟩ : ByteArray).size ≤ 4200 := by rw [bs_size]; have := strL_len xk; omega
      have hV1 : (⟨(strL xv).toArray⟩ : ByteArray).size ≤ 4200 := by rw [bs_size]; have := strL_len xv; omega
      have Hs1 := Lib.hid (fun y : World => rstr_any xk (by omega) y)
      have Hs2 := Lib.hid (fun y : World => rstr_any xv (by omega) y)
      obtain ⟨S, hSe⟩ : ∃ S : ByteArray, (⟨(macHead M ++ pairsB (M.sh.kv.take i)).toArray⟩ : ByteArray) = S := ⟨_, rfl⟩
      obtain ⟨K1, hKe⟩ : ∃ S : ByteArray, (⟨(strL xk).toArray⟩ : ByteArray) = S := ⟨_, rfl⟩
      obtain ⟨V1, hVe⟩ : ∃ S : ByteArray, (⟨(strL xv).toArray⟩ : ByteArray) = S := ⟨_, rfl⟩
      have Hend := Lib.hid (show (⟨(macHead M ++ pairsB (M.sh.kv.take (i + 1))).toArray⟩ : ByteArray) = S ++ K1 ++ V1 by
        rw [Hst.out, ← List.append_assoc, ← List.append_assoc, ← str_app2, ← str_app2, hSe, hKe, hVe])
      rw [hSe] at hS ⊢
      rw [hKe] at Hs1 hK1
      rw [hVe] at Hs2 hV1
      have hSK : (S ++ K1).size ≤ 8400004200 := by rw [ByteArray.size_append]; omega
      clear hSe hKe hVe Hst hpl hhl hkvl
      have HA := Lib.hid hA; clear hA
      have Hc0 := Lib.hid (fun (y : World) (hy : Below wr.heap.size wr y) => (hy.cell (p := ⟨b, o + i * 2, none⟩) hbl).trans c0)
      have Hc1 := Lib.hid (fun (y : World) (hy : Below wr.heap.size wr y) => (hy.cell (p := ⟨b, o + i * 2 + 1, none⟩) hbl).trans c1)
      clear c0 c1
      go_upto_region 5 with fail
      clear q0 q1 q2 q3
      refine (wpIn_wide (n := 1)).1 ?_
      refine RegJ.wpIn_region_plan (F := Fence.wide) (KeptW wr) (.step 0 0 (.step 1 0 (.step 2 0 (.step 3 0 (.step 4 0 (.step 5 0 (.step 6 0 (.step 9 0 (.step 10 0 (.step 11 0 (.step 12 0 (.step 13 0 (.step 14 0 (.step 7 1 (.step 8 0 (.step 15 1 (.step 16 0 (.step 17 0 .nil)))))))))))))))))) (by kernel_rfl) (by kernel_rfl) (by kernel_rfl) (fun _ _ d _ _ h => by cases d <;> exact h) ⟨rfl, rfl, rfl, Nat.le_refl _, fun _ _ => rfl⟩ ?_
      dsimp only [RegJ.pickJ, List.getElem?_cons_zero, List.getElem?_cons_succ]
      change RegJ.Can _ _ _ _ _ _ _ _ wr.drew
      have hkd : KeptW wr wr.drew := ⟨rfl, rfl, rfl, Nat.le_refl _, fun _ _ => rfl⟩
      generalize wr.drew = w5 at *
      refine RegJ.reads ?_
      intro K hK
      go_simp
      refine ⟨_, fun _ _ => rfl, hK _ ?_⟩
      clear hK K
      refine RegJ.reads ?_
      intro K hK
      go_simp
      refine ⟨_, fun _ _ => rfl, hK _ ?_⟩
      clear hK K
      refine RegJ.reads ?_
      intro K hK
      go_simp
      refine ⟨.slice (some ⟨b, o, none⟩) r.n r.c, fun y hy => ?_, hK _ ?_⟩
      · have f0 := (Hr.out.below (KeptW.bel hy)).cells.1
        rw [HA.out] at f0; go_simp
      clear hK K
      refine RegJ.reads ?_
      intro K hK
      go_simp
      refine ⟨_, fun _ _ => rfl, hK _ ?_⟩
      clear hK K
      refine RegJ.reads ?_
      intro K hK
      go_simp
      refine ⟨_, fun _ _ => rfl, hK _ ?_⟩
      clear hK K
      refine RegJ.reads ?_
      intro K hK
      go_simp
      refine ⟨_, fun _ _ => rfl, hK _ ?_⟩
      clear hK K
      refine RegJ.reads ?_
      intro K hK
      go_simp
      refine ⟨.string xk, fun y hy => ?_, hK _ ?_⟩
      · have f0 := Hc0.out y (KeptW.bel hy)
        go_simp
      clear hK K
      refine RegJ.reads ?_
      intro K hK
      go_simp
      refine ⟨_, fun _ _ => rfl, hK _ ?_⟩
      clear hK K
      refine RegJ.reads ?_
      intro K hK
      go_simp
      refine ⟨.slice (some ⟨b, o, none⟩) r.n r.c, fun y hy => ?_, hK _ ?_⟩
      · have f0 := (Hr.out.below (KeptW.bel hy)).cells.1
        rw [HA.out] at f0; go_simp
      clear hK K
      refine RegJ.reads ?_
      intro K hK
      go_simp
      refine ⟨_, fun _ _ => rfl, hK _ ?_⟩
      clear hK K
      refine RegJ.reads ?_
      intro K hK
      go_simp
      refine ⟨_, fun _ _ => rfl, hK _ ?_⟩
      clear hK K
      refine RegJ.reads ?_
      intro K hK
      go_simp
      refine ⟨_, fun _ _ => rfl, hK _ ?_⟩
      clear hK K
      refine RegJ.reads ?_
      intro K hK
      go_simp
      refine ⟨.string xv, fun y hy => ?_, hK _ ?_⟩
      · have f0 := Hc1.out y (KeptW.bel hy)
        go_simp
      clear hK K
      refine RegJ.turns (fun _ => trivial) ?_
      intro K K0 hK hK0
      go_simp
      refine ⟨trivial, ?_⟩
      refine (callsIn_wide.2 (Hs1.out w5)).mono ?_
      rintro e w6 ⟨rfl, hb7⟩
      have w6k : KeptW wr w6 := KeptW.mono hkd hb7
      refine hK _ _ _ (fun _ h => h) w6k ?_
      clear hK K hK0 K0 hb7
      refine RegJ.reads ?_
      intro K hK
      go_simp
      refine ⟨.string (S ++ K1), fun _ _ => ?_, hK _ ?_⟩
      · first | rfl | (rw [if_neg (by omega)]) | (rw [if_neg (by rw [ByteArray.size_append] at hSK; omega)])
      clear hK K
      refine RegJ.turns (fun _ => trivial) ?_
      intro K K0 hK hK0
      go_simp
      refine ⟨trivial, ?_⟩
      refine (callsIn_wide.2 (Hs2.out w6)).mono ?_
      rintro e w7 ⟨rfl, hb7⟩
      have w7k : KeptW wr w7 := KeptW.mono w6k hb7
      refine hK _ _ _ (fun _ h => h) w7k ?_
      clear hK K hK0 K0 hb7
      refine RegJ.reads ?_
      intro K hK
      go_simp
      refine ⟨.string (S ++ K1 ++ V1), fun _ _ => ?_, hK _ ?_⟩
      · first | rfl | (rw [if_neg (by omega)]) | (rw [if_neg (by rw [ByteArray.size_append] at hSK; omega)])
      clear hK K
      refine RegJ.reads ?_
      intro K hK
      go_simp
      refine ⟨_, fun _ _ => rfl, hK _ ?_⟩
      clear hK K
      refine RegJ.nil ?_
      have Hbe := Lib.hid (Hb.out.trans ((KeptW.bel w7k).mono Hb.out.size))
      have HrE := Lib.hid (Hr.out.below (KeptW.bel w7k))
      go_wp2_with fail
      go_roundw
      case rel => exact ⟨i + 1, hlt, rfl, by rw [Hend.out], HrE.out, Hbe.out⟩
      case measure => simp [intOf]; omega
    · have hlt' : ¬ (i : Int) < (r.n : Int) := by omega
      have hkvl : M.sh.kv.length = r.n := H.out.pairs.hlen
      have Hall := Lib.hid (show (⟨(macHead M ++ pairsB (M.sh.kv.take i)).toArray⟩ : ByteArray) = ⟨(macB M).toArray⟩ by unfold macB; rw [List.take_of_length_le (by omega)])
      clear hkvl
      go_wp2_with fail
      go_ret
      exact ⟨by rw [← Hall.out]; rfl, Hb.out⟩
end Go.Proofs.Ytkngadbeflepoaa
