/- The document's machine: its bytes (ref13.Bytes). Condition: codes are bytes, keys and values are not great. -/
import Derived.Test.YtkngadbeflepoaaGreatZDeltaTells33
import Derived.Test.YtkngadbeflepoaaGreatZDeltaTells30
import Derived.Test.YtkngadbeflepoaaGreatZDeltaTells13
import Derived.Maps.AppendAt
import Derived.Test.YtkngadbeflepoaaGreatZDeltaTells0
namespace Go.Proofs.YtkngadbeflepoaaGreat
open Go.RowKit
/-- The document's machine lies there: its pairs, its sets, what was kept. -/
structure RefM where
  A : Option Addr
  n : Nat
  c : Nat
  all : Nat
  mem : Nat
  B : Option Addr
  k : Nat
  d : Nat
def refCells (r : RefM) : List Value := [.slice r.A r.n r.c, .int .u8 (r.all : Int), .int .u8 (r.mem : Int), .slice r.B r.k r.d]
structure RefAt (w : World) (r : RefM) (M : MacV) (z : List KeptV) : Prop where
  pairs : PairsAt w r.A r.n M.sh.kv
  keeps : KeptsAt w r.B r.k z
  all : r.all = M.all
  mem : r.mem = M.mem
  tab : KeptTab M.tab z
  ok : POk r.A r.n r.c
  ty : PTy w r.A
  asc : Asc M.sh.kv
  nilB : r.B = none → r.k = 0 ∧ r.d = 0
  kty : STy w 68 r.B
theorem RefAt.below {w w' : World} {r : RefM} {M : MacV} {z : List KeptV} (h : RefAt w r M z) (hb : Below w.heap.size w w') : RefAt w' r M z := ⟨h.pairs.below hb, h.keeps.below hb, h.all, h.mem, h.tab, h.ok, h.ty.below hb, h.asc, h.nilB, h.kty.below hb⟩
theorem ref_eta (r : RefM) : (refCells r).toArray = #[.slice r.A r.n r.c, .int .u8 (r.all : Int), .int .u8 (r.mem : Int), .slice r.B r.k r.d] := rfl
def RefRow (w : World) (g : Nat) (r : RefM) : Prop := w.heap[g]? = some (.cells (refCells r).toArray 43 (0, 0))
theorem RefRow.cells {w : World} {g : Nat} {r : RefM} (h : RefRow w g r) : w.cell? ⟨g, 0, none⟩ = some (.slice r.A r.n r.c) ∧ w.cell? ⟨g, 1, none⟩ = some (.int .u8 (r.all : Int)) ∧ w.cell? ⟨g, 2, none⟩ = some (.int .u8 (r.mem : Int)) ∧ w.cell? ⟨g, 3, none⟩ = some (.slice r.B r.k r.d) :=
  ⟨cell_of_row _ _ _ _ _ _ h, cell_of_row _ _ _ _ _ _ h, cell_of_row _ _ _ _ _ _ h, cell_of_row _ _ _ _ _ _ h⟩
theorem RefRow.lt {w : World} {g : Nat} {r : RefM} (h : RefRow w g r) : g < w.heap.size := (Array.getElem?_eq_some_iff.1 h).1
theorem RefRow.below {w w' : World} {g : Nat} {r : RefM} (h : RefRow w g r) (hb : Below w.heap.size w w') : RefRow w' g r := (hb.block g h.lt).trans h
theorem RefRow.thawed {w : World} {g : Nat} {r : RefM} (h : RefRow w g r) (j : Nat) : w.frozen? ⟨g, j, none⟩ = false := by
  unfold RefRow at h
  simp [World.frozen?, h]
theorem pairsB_take {L : List (ByteArray × ByteArray)} {i : Nat} (hi : i < L.length) : pairsB (L.take (i + 1)) = pairsB (L.take i) ++ (strL (L.getD i pdflt).1 ++ strL (L.getD i pdflt).2) := by
  rw [List.take_succ_eq_append_getElem hi, pairsB_app]
  simp [pairsB, List.getD, List.getElem?_eq_getElem hi]
set_option maxRecDepth 100000 in
set_option maxHeartbeats 16000000 in
theorem rbytes_any (r : RefM) (M : MacV) (z : List KeptV) (hM : MacBy M) (w : World) (h : RefAt w r M z) :
    Calls Tryz.prog 56 #[.agg (refCells r).toArray] w fun e w' => e = .returned (.string ⟨(macB M).toArray⟩) ∧ Below w.heap.size w w' := by
  have hr1 : RefRow (w.alloc (.cells (refCells r).toArray 43)) w.heap.size r := heap_alloc_new _ _
  have hb1 := (Below.refl w.heap.size w).alloc (Nat.le_refl _) (.cells (refCells r).toArray 43)
  have hn : r.n = M.sh.cnt := by rw [cnt_kv, ← h.pairs.hlen]
  have hcnt := hM.num
  rw [← hn] at hcnt
  have H := Lib.hid h; clear h
  have Hn := Lib.hid hn; clear hn
  rw [ref_eta]
  go_enter Tryz.func56, Tryz.ntmps56
  go_upto_region 1 with fail
  change Code.wp _ _ _ _ (w.alloc (.cells (refCells r).toArray 43))
  generalize w.alloc (.cells (refCells r).toArray 43) = w1 at *
  have Hr1 := Lib.hid hr1; clear hr1
  have Hb1 := Lib.hid hb1; clear hb1
  have h8a : ((UInt8.ofNat r.all).toNat : Int) = (r.all : Int) := by have := hM.all; have := H.out.all; simp; omega
  have h8b : ((UInt8.ofNat r.mem).toNat : Int) = (r.mem : Int) := by have := hM.mem; have := H.out.mem; simp; omega
  have Htwo := Lib.hid (fun y : World => (show ReadB (y.alloc (.cells #[.int .u8 (r.all : Int), .int .u8 (r.mem : Int)] 5)) (.slice (some ⟨y.heap.size, 0, none⟩) 2 2) [UInt8.ofNat r.all, UInt8.ofNat r.mem] from ReadB.cells y [UInt8.ofNat r.all, UInt8.ofNat r.mem] 5 _ (by rw [← h8a, ← h8b]; rfl) 2))
  clear h8a h8b
  have Htab := Lib.hid (fun (y : World) (hy : Below w.heap.size w y) => rtab_any r.B r.k r.d z M.tab H.out.tab hM.tab y (H.out.keeps.below hy))
  have Hnum := Lib.hid (fun y : World => rnum_any r.n (by omega) y)
  have hC2 : (⟨[UInt8.ofNat r.all, UInt8.ofNat r.mem].toArray⟩ : ByteArray).size = 2 := rfl
  have hTB : (⟨(tabB M.tab 4).toArray⟩ : ByteArray).size ≤ 17000 := by rw [bs_size]; have := tabB_len hM.tab 4; omega
  have hNL : (⟨(numL r.n).toArray⟩ : ByteArray).size ≤ 9 := by rw [bs_size]; exact (numL_len r.n).1
  obtain ⟨C2, hCe⟩ : ∃ S : ByteArray, (⟨[UInt8.ofNat r.all, UInt8.ofNat r.mem].toArray⟩ : ByteArray) = S := ⟨_, rfl⟩
  obtain ⟨TB, hTe⟩ : ∃ S : ByteArray, (⟨(tabB M.tab 4).toArray⟩ : ByteArray) = S := ⟨_, rfl⟩
  obtain ⟨NL, hNe⟩ : ∃ S : ByteArray, (⟨(numL r.n).toArray⟩ : ByteArray) = S := ⟨_, rfl⟩
  have hhead : (⟨(macHead M).toArray⟩ : ByteArray) = C2 ++ TB ++ NL := by
    unfold macHead
    rw [← str_app2, ← str_app2, ← hCe, ← hTe, ← hNe, H.out.all, H.out.mem, Hn.out]
  rw [hTe] at Htab hTB
  rw [hNe] at Hnum hNL
  rw [hCe] at hC2
  have HCe := Lib.hid hCe
  have Hhead := Lib.hid hhead; clear hhead hCe hTe hNe
  have hCT : (C2 ++ TB).size ≤ 17002 := by rw [ByteArray.size_append]; omega
  have hwrap : IntKind.u64.wrap (r.n : Int) = (r.n : Int) := by rw [IntKind.wrap_u64]; omega
  go_cut [3] (fun s3 wx => s3 = .string (C2 ++ TB ++ NL) ∧ RefRow wx w.heap.size r ∧ Below w.heap.size w wx)
  case first =>
    refine (wpIn_wide (n := 1)).1 ?_
    refine RegJ.wpIn_region_plan (F := Fence.wide) (KeptW w1) (.step 0 0 (.step 1 0 (.step 2 0 (.step 3 0 (.step 6 0 (.step 7 0 (.step 10 0 (.step 11 0 (.step 12 0 (.step 13 0
      (.fork 4 (.step 5 0 (.step 8 1 (.step 9 0 (.step 14 1 (.step 15 0 (.step 16 0 .nil)))))) 8 (.fork 4 (.step 5 0 (.step 9 0 (.step 14 1 (.step 15 0 (.step 16 0 .nil))))) 14 (.step 4 1 (.step 5 0 (.step 9 0 (.step 15 0 (.step 16 0 .nil)))))))))))))))))
      (by kernel_rfl) (by kernel_rfl) (by kernel_rfl) (fun _ _ d _ _ h => by cases d <;> exact h) ⟨rfl, rfl, rfl, Nat.le_refl _, fun _ _ => rfl⟩ ?_
    dsimp only [RegJ.pickJ, List.getElem?_cons_zero, List.getElem?_cons_succ]
    change RegJ.Can _ _ _ _ _ _ _ _ w1.drew
    have hkd : KeptW w1 w1.drew := ⟨rfl, rfl, rfl, Nat.le_refl _, fun _ _ => rfl⟩
    generalize w1.drew = w5 at *
    refine RegJ.reads ?_
    intro K hK
    go_simp
    refine ⟨_, fun _ _ => rfl, hK _ ?_⟩
    clear hK K
    refine RegJ.reads ?_
    intro K hK
    go_simp
    refine ⟨.int .u8 (r.all : Int), fun y hy => ?_, hK _ ?_⟩
    · have f0 := (Hr1.out.below (KeptW.bel hy)).cells.2.1
      go_simp
    clear hK K
    refine RegJ.reads ?_
    intro K hK
    go_simp
    refine ⟨_, fun _ _ => rfl, hK _ ?_⟩
    clear hK K
    refine RegJ.reads ?_
    intro K hK
    go_simp
    refine ⟨.int .u8 (r.mem : Int), fun y hy => ?_, hK _ ?_⟩
    · have f0 := (Hr1.out.below (KeptW.bel hy)).cells.2.2.1
      go_simp
    clear hK K
    refine RegJ.reads ?_
    intro K hK
    go_simp
    refine ⟨_, fun _ _ => rfl, hK _ ?_⟩
    clear hK K
    refine RegJ.reads ?_
    intro K hK
    go_simp
    refine ⟨.slice r.B r.k r.d, fun y hy => ?_, hK _ ?_⟩
    · have f0 := (Hr1.out.below (KeptW.bel hy)).cells.2.2.2
      go_simp
    clear hK K
    refine RegJ.reads ?_
    intro K hK
    go_simp
    refine ⟨_, fun _ _ => rfl, hK _ ?_⟩
    clear hK K
    refine RegJ.reads ?_
    intro K hK
    go_simp
    refine ⟨.slice r.A r.n r.c, fun y hy => ?_, hK _ ?_⟩
    · have f0 := (Hr1.out.below (KeptW.bel hy)).cells.1
      go_simp
    clear hK K
    refine RegJ.reads ?_
    intro K hK
    go_simp
    refine ⟨_, fun _ _ => rfl, hK _ ?_⟩
    clear hK K
    refine RegJ.reads ?_
    intro K hK
    go_simp
    refine ⟨.int .u64 (r.n : Int), fun _ _ => ?_, hK _ ?_⟩
    · first | rfl | rw [hwrap]
    clear hK K
    clear hwrap
    refine RegJ.forks ?_ ?_
    · skip
      refine RegJ.turns (fun _ => trivial) ?_
      intro K K0 hK hK0
      go_simp
      have hbq := (Below.refl w5.heap.size w5).alloc (Nat.le_refl _) (.cells #[.int .u8 (r.all : Int), .int .u8 (r.mem : Int)] 5)
      have q1k : KeptW w1 (w5.alloc (.cells #[.int .u8 (r.all : Int), .int .u8 (r.mem : Int)] 5)) := KeptW.mono hkd hbq
      have hone := Htwo.out w5
      refine hK (KeptW (w5.alloc (.cells #[.int .u8 (r.all : Int), .int .u8 (r.mem : Int)] 5))) _ (w5.alloc (.cells #[.int .u8 (r.all : Int), .int .u8 (r.mem : Int)] 5)) (fun y hy => KeptW.mono q1k (KeptW.bel hy)) (Below.refl _ _) ?_
      clear hK K hK0 K0 hbq
      generalize w5.alloc (.cells #[.int .u8 (r.all : Int), .int .u8 (r.mem : Int)] 5) = q1 at *
      generalize w5.heap.size = gq at *
      refine RegJ.reads ?_
      intro K hK
      go_simp
      refine ⟨.string C2, fun y hy => ?_, hK _ ?_⟩
      · have hcv := (hone.below (KeptW.bel hy)).conv Tryz.underlying61 Tryz.underlying5 Tryz.underlying9
        rw [HCe.out] at hcv
        rw [hcv]
        rfl
      clear hK K
      clear hone
      refine RegJ.turns (fun _ => trivial) ?_
      intro K K0 hK hK0
      go_simp
      refine ⟨trivial, ?_⟩
      refine (callsIn_wide.2 (Htab.out q1 (Hb1.out.trans ((KeptW.bel q1k).mono Hb1.out.size)))).mono ?_
      rintro e w7 ⟨rfl, hb7⟩
      have w7k : KeptW w1 w7 := KeptW.mono q1k hb7
      refine hK _ _ _ (fun _ h => h) (show KeptW q1 w7 from hb7) ?_
      clear hK K hK0 K0
      refine RegJ.reads ?_
      intro K hK
      go_simp
      refine ⟨.string (C2 ++ TB), fun _ _ => ?_, hK _ ?_⟩
      · first | rfl | (rw [if_neg (by omega)]) | (rw [if_neg (by rw [ByteArray.size_append] at hCT; omega)])
      clear hK K
      refine RegJ.turns (fun _ => trivial) ?_
      intro K K0 hK hK0
      go_simp
      refine ⟨trivial, ?_⟩
      refine (callsIn_wide.2 (Hnum.out w7)).mono ?_
      rintro e w8 ⟨rfl, hb7⟩
      have w8k : KeptW w1 w8 := KeptW.mono w7k hb7
      refine hK _ _ _ (fun _ h => h) (show KeptW q1 w8 from KeptW.mono (show KeptW q1 w7 from by assumption) hb7) ?_
      clear hK K hK0 K0
      refine RegJ.reads ?_
      intro K hK
      go_simp
      refine ⟨.string (C2 ++ TB ++ NL), fun _ _ => ?_, hK _ ?_⟩
      · first | rfl | (rw [if_neg (by omega)]) | (rw [if_neg (by rw [ByteArray.size_append] at hCT; omega)])
      clear hK K
      refine RegJ.reads ?_
      intro K hK
      go_simp
      refine ⟨_, fun _ _ => rfl, hK _ ?_⟩
      clear hK K
      refine RegJ.nil ?_
      have Hbe := Lib.hid (Hb1.out.trans ((KeptW.bel w8k).mono Hb1.out.size))
      have HrE := Lib.hid (Hr1.out.below (KeptW.bel w8k))
      go_wp2_with fail
      go_meet
      exact ⟨rfl, HrE.out, Hbe.out⟩
    · skip
      refine RegJ.turns (fun _ => trivial) ?_
      intro K K0 hK hK0
      go_simp
      refine ⟨trivial, ?_⟩
      refine (callsIn_wide.2 (Htab.out w5 (Hb1.out.trans ((KeptW.bel hkd).mono Hb1.out.size)))).mono ?_
      rintro e w7 ⟨rfl, hb7⟩
      have w7k : KeptW w1 w7 := KeptW.mono hkd hb7
      refine hK _ _ _ (fun _ h => h) w7k ?_
      clear hK K hK0 K0
      refine RegJ.forks ?_ ?_
      · skip
        refine RegJ.turns (fun _ => trivial) ?_
        intro K K0 hK hK0
        go_simp
        have hbq := (Below.refl w7.heap.size w7).alloc (Nat.le_refl _) (.cells #[.int .u8 (r.all : Int), .int .u8 (r.mem : Int)] 5)
        have q1k : KeptW w1 (w7.alloc (.cells #[.int .u8 (r.all : Int), .int .u8 (r.mem : Int)] 5)) := KeptW.mono w7k hbq
        have hone := Htwo.out w7
        refine hK (KeptW (w7.alloc (.cells #[.int .u8 (r.all : Int), .int .u8 (r.mem : Int)] 5))) _ (w7.alloc (.cells #[.int .u8 (r.all : Int), .int .u8 (r.mem : Int)] 5)) (fun y hy => KeptW.mono q1k (KeptW.bel hy)) (Below.refl _ _) ?_
        clear hK K hK0 K0 hbq
        generalize w7.alloc (.cells #[.int .u8 (r.all : Int), .int .u8 (r.mem : Int)] 5) = q1 at *
        generalize w7.heap.size = gq at *
        refine RegJ.reads ?_
        intro K hK
        go_simp
        refine ⟨.string C2, fun y hy => ?_, hK _ ?_⟩
        · have hcv := (hone.below (KeptW.bel hy)).conv Tryz.underlying61 Tryz.underlying5 Tryz.underlying9
          rw [HCe.out] at hcv
          rw [hcv]
          rfl
        clear hK K
        clear hone
        refine RegJ.reads ?_
        intro K hK
        go_simp
        refine ⟨.string (C2 ++ TB), fun _ _ => ?_, hK _ ?_⟩
        · first | rfl | (rw [if_neg (by omega)]) | (rw [if_neg (by rw [ByteArray.size_append] at hCT; omega)])
        clear hK K
        refine RegJ.turns (fun _ => trivial) ?_
        intro K K0 hK hK0
        go_simp
        refine ⟨trivial, ?_⟩
        refine (callsIn_wide.2 (Hnum.out q1)).mono ?_
        rintro e w8 ⟨rfl, hb7⟩
        have w8k : KeptW w1 w8 := KeptW.mono q1k hb7
        refine hK _ _ _ (fun _ h => h) (show KeptW q1 w8 from hb7) ?_
        clear hK K hK0 K0
        refine RegJ.reads ?_
        intro K hK
        go_simp
        refine ⟨.string (C2 ++ TB ++ NL), fun _ _ => ?_, hK _ ?_⟩
        · first | rfl | (rw [if_neg (by omega)]) | (rw [if_neg (by rw [ByteArray.size_append] at hCT; omega)])
        clear hK K
        refine RegJ.reads ?_
        intro K hK
        go_simp
        refine ⟨_, fun _ _ => rfl, hK _ ?_⟩
        clear hK K
        refine RegJ.nil ?_
        have Hbe := Lib.hid (Hb1.out.trans ((KeptW.bel w8k).mono Hb1.out.size))
        have HrE := Lib.hid (Hr1.out.below (KeptW.bel w8k))
        go_wp2_with fail
        go_meet
        exact ⟨rfl, HrE.out, Hbe.out⟩
      · skip
        refine RegJ.turns (fun _ => trivial) ?_
        intro K K0 hK hK0
        go_simp
        refine ⟨trivial, ?_⟩
        refine (callsIn_wide.2 (Hnum.out w7)).mono ?_
        rintro e w8 ⟨rfl, hb7⟩
        have w8k : KeptW w1 w8 := KeptW.mono w7k hb7
        refine hK _ _ _ (fun _ h => h) w8k ?_
        clear hK K hK0 K0
        refine RegJ.turns (fun _ => trivial) ?_
        intro K K0 hK hK0
        go_simp
        have hbq := (Below.refl w8.heap.size w8).alloc (Nat.le_refl _) (.cells #[.int .u8 (r.all : Int), .int .u8 (r.mem : Int)] 5)
        have q1k : KeptW w1 (w8.alloc (.cells #[.int .u8 (r.all : Int), .int .u8 (r.mem : Int)] 5)) := KeptW.mono w8k hbq
        have hone := Htwo.out w8
        refine hK (KeptW (w8.alloc (.cells #[.int .u8 (r.all : Int), .int .u8 (r.mem : Int)] 5))) _ (w8.alloc (.cells #[.int .u8 (r.all : Int), .int .u8 (r.mem : Int)] 5)) (fun y hy => KeptW.mono q1k (KeptW.bel hy)) (Below.refl _ _) ?_
        clear hK K hK0 K0 hbq
        generalize w8.alloc (.cells #[.int .u8 (r.all : Int), .int .u8 (r.mem : Int)] 5) = q1 at *
        generalize w8.heap.size = gq at *
        refine RegJ.reads ?_
        intro K hK
        go_simp
        refine ⟨.string C2, fun y hy => ?_, hK _ ?_⟩
        · have hcv := (hone.below (KeptW.bel hy)).conv Tryz.underlying61 Tryz.underlying5 Tryz.underlying9
          rw [HCe.out] at hcv
          rw [hcv]
          rfl
        clear hK K
        clear hone
        refine RegJ.reads ?_
        intro K hK
        go_simp
        refine ⟨.string (C2 ++ TB), fun _ _ => ?_, hK _ ?_⟩
        · first | rfl | (rw [if_neg (by omega)]) | (rw [if_neg (by rw [ByteArray.size_append] at hCT; omega)])
        clear hK K
        refine RegJ.reads ?_
        intro K hK
        go_simp
        refine ⟨.string (C2 ++ TB ++ NL), fun _ _ => ?_, hK _ ?_⟩
        · first | rfl | (rw [if_neg (by omega)]) | (rw [if_neg (by rw [ByteArray.size_append] at hCT; omega)])
        clear hK K
        refine RegJ.reads ?_
        intro K hK
        go_simp
        refine ⟨_, fun _ _ => rfl, hK _ ?_⟩
        clear hK K
        refine RegJ.nil ?_
        have Hbe := Lib.hid (Hb1.out.trans ((KeptW.bel q1k).mono Hb1.out.size))
        have HrE := Lib.hid (Hr1.out.below (KeptW.bel q1k))
        go_wp2_with fail
        go_meet
        exact ⟨rfl, HrE.out, Hbe.out⟩
  case rest =>
  obtain ⟨rfl, hrx, hbx⟩ := hcut
  have Hrx := Lib.hid hrx; clear hrx
  have Hbx := Lib.hid hbx; clear hbx Hb1 Hr1 Htwo Htab Hnum
  generalize wc = w2 at *
  have Hcn := Lib.hid hcnt; clear hcnt
  go_wp2_with fail
  go_loopw [3, 4] (fun s3 s4 wr => ∃ i : Nat, i ≤ r.n ∧ s4 = .int .i64 (i : Int) ∧ s3 = .string ⟨(macHead M ++ pairsB (M.sh.kv.take i)).toArray⟩ ∧ RefRow wr w.heap.size r ∧ Below w.heap.size w wr) (fun _ s4 _ => r.n - (intOf s4).toNat)
  case atStart => exact ⟨0, by omega, rfl, by rw [← Hhead.out]; simp [pairsB], Hrx.out, Hbx.out⟩
  case round =>
    clear Hrx Hbx
    obtain ⟨i, hi, rfl, rfl, hr, hb⟩ := hrel
    have Hr := Lib.hid hr; clear hr
    have Hb := Lib.hid hb; clear hb
    obtain ⟨q0, q1, q2, q3⟩ := Hr.out.cells
    by_cases hlt : i < r.n
    · have hlt' : (i : Int) < (r.n : Int) := by omega
      have hsucc := tsucc (n := i) (by have := Hcn.out; omega)
      have hkvl : M.sh.kv.length = r.n := H.out.pairs.hlen
      obtain ⟨b, o, hA, hbl, c0, c1⟩ := pairs_get (H.out.pairs.below Hb.out) hlt
      have hst := pairsB_take (L := M.sh.kv) (i := i) (by omega)
      have hpo : PairOk (M.sh.kv.getD i pdflt) := hM.kv _ (by rw [List.getD, List.getElem?_eq_getElem (by omega)]; exact List.getElem_mem _)
      have hpl := pairsB_len (M.sh.kv.take i) (fun p hp => hM.kv p (List.mem_of_mem_take hp))
      have hhl := macHead_len hM
      rw [List.length_take] at hpl
      obtain ⟨⟨xk, xv⟩, hx⟩ : ∃ x, M.sh.kv.getD i pdflt = x := ⟨_, rfl⟩
      rw [hx] at c0 c1 hst hpo
      clear hx
      simp only at c0 c1 hst
      have hx1 : xk.size ≤ 4096 := hpo.1
      have hx2 : xv.size ≤ 4096 := hpo.2
      have Hst := Lib.hid hst; clear hst hpo
      have hS : (⟨(macHead M ++ pairsB (M.sh.kv.take i)).toArray⟩ : ByteArray).size ≤ 8400000000 := by rw [bs_size, List.length_append]; have := Hcn.out; omega
      have hK1 : (⟨(strL xk).toArray⟩ : ByteArray).size ≤ 4200 := by rw [bs_size]; have := strL_len xk; omega
      have hV1 : (⟨(strL xv).toArray⟩ : ByteArray).size ≤ 4200 := by rw [bs_size]; have := strL_len xv; omega
      have Hs1 := Lib.hid (fun y : World => rstr_any xk (by omega) y)
      have Hs2 := Lib.hid (fun y : World => rstr_any xv (by omega) y)
      obtain ⟨S, hSe⟩ : ∃ S : ByteArray, (⟨(macHead M ++ pairsB (M.sh.kv.take i)).toArray⟩ : ByteArray) = S := ⟨_, rfl⟩
      obtain ⟨K1, hKe⟩ : ∃ S : ByteArray, (⟨(strL xk).toArray⟩ : ByteArray) = S := ⟨_, rfl⟩
      obtain ⟨V1, hVe⟩ : ∃ S : ByteArray, (⟨(strL xv).toArray⟩ : ByteArray) = S := ⟨_, rfl⟩
      have Hend := Lib.hid (show (⟨(macHead M ++ pairsB (M.sh.kv.take (i + 1))).toArray⟩ : ByteArray) = S ++ K1 ++ V1 by
        rw [Hst.out, ← List.append_assoc, ← List.append_assoc, ← str_app2, ← str_app2, hSe, hKe, hVe])
      rw [hSe] at hS ⊢
      rw [hKe] at Hs1 hK1
      rw [hVe] at Hs2 hV1
      have hSK : (S ++ K1).size ≤ 8400004200 := by rw [ByteArray.size_append]; omega
      clear hSe hKe hVe Hst hpl hhl hkvl
      have HA := Lib.hid hA; clear hA
      have Hc0 := Lib.hid (fun (y : World) (hy : Below wr.heap.size wr y) => (hy.cell (p := ⟨b, o + i * 2, none⟩) hbl).trans c0)
      have Hc1 := Lib.hid (fun (y : World) (hy : Below wr.heap.size wr y) => (hy.cell (p := ⟨b, o + i * 2 + 1, none⟩) hbl).trans c1)
      clear c0 c1
      go_upto_region 5 with fail
      clear q0 q1 q2 q3
      refine (wpIn_wide (n := 1)).1 ?_
      refine RegJ.wpIn_region_plan (F := Fence.wide) (KeptW wr) (.step 0 0 (.step 1 0 (.step 2 0 (.step 3 0 (.step 4 0 (.step 5 0 (.step 6 0 (.step 9 0 (.step 10 0 (.step 11 0 (.step 12 0 (.step 13 0 (.step 14 0 (.step 7 1 (.step 8 0 (.step 15 1 (.step 16 0 (.step 17 0 .nil)))))))))))))))))) (by kernel_rfl) (by kernel_rfl) (by kernel_rfl) (fun _ _ d _ _ h => by cases d <;> exact h) ⟨rfl, rfl, rfl, Nat.le_refl _, fun _ _ => rfl⟩ ?_
      dsimp only [RegJ.pickJ, List.getElem?_cons_zero, List.getElem?_cons_succ]
      change RegJ.Can _ _ _ _ _ _ _ _ wr.drew
      have hkd : KeptW wr wr.drew := ⟨rfl, rfl, rfl, Nat.le_refl _, fun _ _ => rfl⟩
      generalize wr.drew = w5 at *
      refine RegJ.reads ?_
      intro K hK
      go_simp
      refine ⟨_, fun _ _ => rfl, hK _ ?_⟩
      clear hK K
      refine RegJ.reads ?_
      intro K hK
      go_simp
      refine ⟨_, fun _ _ => rfl, hK _ ?_⟩
      clear hK K
      refine RegJ.reads ?_
      intro K hK
      go_simp
      refine ⟨.slice (some ⟨b, o, none⟩) r.n r.c, fun y hy => ?_, hK _ ?_⟩
      · have f0 := (Hr.out.below (KeptW.bel hy)).cells.1
        rw [HA.out] at f0; go_simp
      clear hK K
      refine RegJ.reads ?_
      intro K hK
      go_simp
      refine ⟨_, fun _ _ => rfl, hK _ ?_⟩
      clear hK K
      refine RegJ.reads ?_
      intro K hK
      go_simp
      refine ⟨_, fun _ _ => rfl, hK _ ?_⟩
      clear hK K
      refine RegJ.reads ?_
      intro K hK
      go_simp
      refine ⟨_, fun _ _ => rfl, hK _ ?_⟩
      clear hK K
      refine RegJ.reads ?_
      intro K hK
      go_simp
      refine ⟨.string xk, fun y hy => ?_, hK _ ?_⟩
      · have f0 := Hc0.out y (KeptW.bel hy)
        go_simp
      clear hK K
      refine RegJ.reads ?_
      intro K hK
      go_simp
      refine ⟨_, fun _ _ => rfl, hK _ ?_⟩
      clear hK K
      refine RegJ.reads ?_
      intro K hK
      go_simp
      refine ⟨.slice (some ⟨b, o, none⟩) r.n r.c, fun y hy => ?_, hK _ ?_⟩
      · have f0 := (Hr.out.below (KeptW.bel hy)).cells.1
        rw [HA.out] at f0; go_simp
      clear hK K
      refine RegJ.reads ?_
      intro K hK
      go_simp
      refine ⟨_, fun _ _ => rfl, hK _ ?_⟩
      clear hK K
      refine RegJ.reads ?_
      intro K hK
      go_simp
      refine ⟨_, fun _ _ => rfl, hK _ ?_⟩
      clear hK K
      refine RegJ.reads ?_
      intro K hK
      go_simp
      refine ⟨_, fun _ _ => rfl, hK _ ?_⟩
      clear hK K
      refine RegJ.reads ?_
      intro K hK
      go_simp
      refine ⟨.string xv, fun y hy => ?_, hK _ ?_⟩
      · have f0 := Hc1.out y (KeptW.bel hy)
        go_simp
      clear hK K
      refine RegJ.turns (fun _ => trivial) ?_
      intro K K0 hK hK0
      go_simp
      refine ⟨trivial, ?_⟩
      refine (callsIn_wide.2 (Hs1.out w5)).mono ?_
      rintro e w6 ⟨rfl, hb7⟩
      have w6k : KeptW wr w6 := KeptW.mono hkd hb7
      refine hK _ _ _ (fun _ h => h) w6k ?_
      clear hK K hK0 K0 hb7
      refine RegJ.reads ?_
      intro K hK
      go_simp
      refine ⟨.string (S ++ K1), fun _ _ => ?_, hK _ ?_⟩
      · first | rfl | (rw [if_neg (by omega)]) | (rw [if_neg (by rw [ByteArray.size_append] at hSK; omega)])
      clear hK K
      refine RegJ.turns (fun _ => trivial) ?_
      intro K K0 hK hK0
      go_simp
      refine ⟨trivial, ?_⟩
      refine (callsIn_wide.2 (Hs2.out w6)).mono ?_
      rintro e w7 ⟨rfl, hb7⟩
      have w7k : KeptW wr w7 := KeptW.mono w6k hb7
      refine hK _ _ _ (fun _ h => h) w7k ?_
      clear hK K hK0 K0 hb7
      refine RegJ.reads ?_
      intro K hK
      go_simp
      refine ⟨.string (S ++ K1 ++ V1), fun _ _ => ?_, hK _ ?_⟩
      · first | rfl | (rw [if_neg (by omega)]) | (rw [if_neg (by rw [ByteArray.size_append] at hSK; omega)])
      clear hK K
      refine RegJ.reads ?_
      intro K hK
      go_simp
      refine ⟨_, fun _ _ => rfl, hK _ ?_⟩
      clear hK K
      refine RegJ.nil ?_
      have Hbe := Lib.hid (Hb.out.trans ((KeptW.bel w7k).mono Hb.out.size))
      have HrE := Lib.hid (Hr.out.below (KeptW.bel w7k))
      go_wp2_with fail
      go_roundw
      case rel => exact ⟨i + 1, hlt, rfl, by rw [Hend.out], HrE.out, Hbe.out⟩
      case measure => simp [intOf]; omega
    · have hlt' : ¬ (i : Int) < (r.n : Int) := by omega
      have hkvl : M.sh.kv.length = r.n := H.out.pairs.hlen
      have Hall := Lib.hid (show (⟨(macHead M ++ pairsB (M.sh.kv.take i)).toArray⟩ : ByteArray) = ⟨(macB M).toArray⟩ by unfold macB; rw [List.take_of_length_le (by omega)])
      clear hkvl
      go_wp2_with fail
      go_ret
      exact ⟨by rw [← Hall.out]; rfl, Hb.out⟩
end Go.Proofs.YtkngadbeflepoaaGreat
namespace Go.Proofs.YtkngadbeflepoaaGreat
open Go.RowKit
/-- Bytes of a number, the lowest first. -/
def leB (x : Nat) : Nat → List UInt8
  | 0 => []
  | i + 1 => leB x i ++ [UInt8.ofNat (x / 256 ^ i)]
theorem leB_len (x : Nat) : ∀ i, (leB x i).length = i
  | 0 => rfl
  | i + 1 => by rw [leB, List.length_append, leB_len x i]; rfl
/-- The checksum of a machine's bytes. -/
def sumM (M : MacV) : Nat := (Crc.sum 0#64 (macB M)).toNat
theorem sumM_lt (M : MacV) : sumM M < 18446744073709551616 := (Crc.sum 0#64 (macB M)).isLt
def sumB (M : MacV) : List UInt8 := leB (sumM M) 8
theorem OwnB.block {w : World} {base : Nat} {t : TypeId} {v : Value} {l : List UInt8} (h : OwnB w base t v l) : ∀ k, v.ownBlock = some k → base ≤ k := by
  intro k hk
  unfold OwnB at h
  obtain ⟨-, h⟩ := h
  rcases h with ⟨rfl, -⟩ | ⟨g, cap, cur, rfl, h3, -⟩
  · cases hk
  · cases hk; exact h3
theorem OwnB.nil (w : World) (base : Nat) (t : TypeId) : OwnB w base t (.slice none 0 0) [] := ⟨rfl, .inl ⟨rfl, rfl⟩⟩
theorem OwnB.alloc {w : World} {base : Nat} {t : TypeId} {v : Value} {l : List UInt8} (h : OwnB w base t v l) (o : Obj) : OwnB (w.alloc o) base t v l := h.below ((Below.refl _ _).alloc (Nat.le_refl _) _)
set_option maxRecDepth 100000 in
set_option maxHeartbeats 8000000 in
theorem putSum_any (M : MacV) (T : Tr) (hM : MacBy M) (hlen : (macB M).length ≤ maxLen) (v : Value) (l : List UInt8) (base : Nat) (hl : l.length ≤ 1000000) (w : World) (hb : base ≤ w.heap.size) (h : OwnB w base 5 v l) (hat : TreeAt w T) (hsh : T.sh = M.sh) :
    Calls Tryz.prog 15 #[v, macV M T.ptr] w fun e w' => ∃ v', e = .returned v' ∧ OwnB w' base 5 v' (l ++ sumB M) ∧ Below base w w' := by
  obtain ⟨i0, hi0, hz0, hs0, hb0⟩ := info_parts info8
  obtain ⟨a, n, c, rfl⟩ := h.read.slice
  obtain ⟨P, hP⟩ : ∃ P, T.ptr = P := ⟨_, rfl⟩
  have hb1 := (Below.refl w.heap.size w).alloc (Nat.le_refl _) (.cells (macCells M P).toArray 39)
  have hm1 : MacAt (w.alloc (.cells (macCells M P).toArray 39)) w.heap.size M P := heap_alloc_new _ _
  have hby := fun (y : World) (hy : TreeAt y T) => mbytes_any M T hM y hy hsh
  rw [hP] at hby ⊢
  unfold macV at hby ⊢
  rw [mac_eta M P] at hby ⊢
  have hsum := fun y : World => sum_any ⟨(macB M).toArray⟩ (by simpa [ByteArray.size] using hlen) y
  obtain ⟨SA, hSA⟩ : ∃ S : ByteArray, (⟨(macB M).toArray⟩ : ByteArray) = S := ⟨_, rfl⟩
  have hx : (Crc.sum 0#64 SA.data.toList).toNat = sumM M := by rw [← hSA]; rfl
  rw [hSA] at hby hsum
  clear hSA
  rw [hx] at hsum
  clear hx
  have hxl := sumM_lt M
  have hres : sumB M = leB (sumM M) 8 := rfl
  rw [hres]
  clear hres
  obtain ⟨x, hx⟩ : ∃ x, sumM M = x := ⟨_, rfl⟩
  rw [hx] at hsum hxl ⊢
  clear hx
  have Hby := Lib.hid (hby _ (hat.below hb1)); clear hby
  have Hsum := Lib.hid hsum; clear hsum
  have Ho1 := Lib.hid (h.below hb1); clear h
  go_enter Tryz.func15, Tryz.ntmps15
  go_upto_region 1 with fail
  change Code.wp _ _ _ _ (w.alloc (.cells (macCells M P).toArray 39))
  generalize w.alloc (.cells (macCells M P).toArray 39) = w1 at *
  obtain ⟨⟨m0, m1, m14⟩, ⟨m2, m3, m4⟩, ⟨m5, m6, m7⟩, ⟨m8, m9, m10⟩, ⟨m11, m12, m13⟩⟩ := hm1.cells
  have Hb1 := Lib.hid hb1; clear hb1 hm1
  go_wp2_with (first
    | ((with_reducible refine Hby.out.mono ?_); rintro e w2 ⟨rfl, hb2⟩; have Hb2 := Lib.hid hb2; clear hb2)
    | ((with_reducible refine (Hsum.out _).mono ?_); rintro e w' ⟨rfl, rfl⟩))
  clear m0 m1 m2 m3 m4 m5 m6 m7 m8 m9 m10 m11 m12 m13 m14 Hby Hsum
  have Hb := Lib.hid ((Hb1.out.mono hb).trans (Hb2.out.mono (Nat.le_trans hb Hb1.out.size)))
  have Ho := Lib.hid (Ho1.out.below Hb2.out)
  clear Ho1 Hb1 Hb2
  go_loopw [0, 10] (fun s0 s10 wr => ∃ (i : Nat), i ≤ 8 ∧ s10 = .int .i64 (i : Int) ∧ OwnB wr base 5 s0 (l ++ leB x i) ∧ Below base w wr) (fun _ s10 _ => 8 - (intOf s10).toNat)
  case atStart => exact ⟨0, by omega, rfl, by rw [leB, List.append_nil]; exact Ho.out, Hb.out⟩
  case round =>
    clear Ho Hb
    obtain ⟨i, hi, rfl, ho, hbel⟩ := hrel
    obtain ⟨a, n, c, rfl⟩ := ho.read.slice
    have Hbel := Lib.hid hbel; clear hbel
    have Ho := Lib.hid ho; clear ho
    by_cases hi8 : i < 8
    · have hi8' : (i : Int) < 8 := by omega
      have hsucc := tsucc (n := i) (by omega)
      have hi0' : (0 : Int) ≤ (i : Int) := by omega
      have hi7 : (i : Int) ≤ 7 := by omega
      have hnews : bcells [UInt8.ofNat (x / 256 ^ i)] = [.int .u8 ((x : Int) / 2 ^ (8 * i) % 256)] := by
        have e : (2 : Nat) ^ (8 * i) = 256 ^ i := by rw [Nat.pow_mul]
        simp [bcells, ← e]
      have Hnews := Lib.hid hnews; clear hnews
      have Hle := Lib.hid (show base ≤ wr.heap.size from Nat.le_trans hb Hbel.out.size)
      have Hlen := Lib.hid (show (l ++ leB x i).length ≤ 1000100 by rw [List.length_append, leB_len]; omega)
      go_wp2_with (at_builtin; refine wpList_append_own_at _ rfl _ _ 61 rfl base 5 i0 (.int .u8 0) 1 1 Tryz.underlying61 hi0 hz0 hs0 hb0 rfl (by decide) _ _ _ rfl (World.ownsRow.alloc Ho.out _) ⟨wr.heap.size, 0, none⟩ 1 1 (bcells [UInt8.ofNat (x / 256 ^ i)]) rfl rfl (by rw [Hnews.out]; exact cells_one _ _ _) (bcells_one _) (by have := Hlen.out; unfold maxLen; omega) (by have := Hlen.out; omega) (by have := Hle.out; simp; omega) ?_; intro v4 w4 ho4 hg4 _ _; have Hg4 := Lib.hid hg4; clear hg4; have Ho4 := Lib.hid ho4; clear ho4)
      go_roundw
      case rel =>
        refine ⟨i + 1, by omega, rfl, ?_, below_grown Hg4.out ((Hbel.out.alloc Hle.out _)) (by have := Hle.out; simp; omega) Ho.out.block⟩
        rw [leB, ← List.append_assoc]
        exact OwnB.of Ho4.out rfl rfl
      case measure => simp [intOf]; omega
    · have hi8' : ¬ (i : Int) < 8 := by omega
      obtain rfl : i = 8 := by omega
      clear hi8 hi
      go_wp2_with fail
      go_ret
      exact ⟨_, rfl, Ho.out, Hbel.out⟩
end Go.Proofs.YtkngadbeflepoaaGreat
namespace Go.Proofs.YtkngadbeflepoaaGreat
open Go.RowKit
theorem leB_div (x i : Nat) : leB x (i + 1) = leB x i ++ [UInt8.ofNat (x / 256 ^ i)] := rfl
set_option maxRecDepth 100000 in
set_option maxHeartbeats 8000000 in
theorem rsum_any (r : RefM) (M : MacV) (z : List KeptV) (hM : MacBy M) (hlen : (macB M).length ≤ maxLen) (w : World) (h : RefAt w r M z) :
    Calls Tryz.prog 25 #[.agg (refCells r).toArray] w fun e w' => e = .returned (.string ⟨(sumB M).toArray⟩) ∧ Below w.heap.size w w' := by
  obtain ⟨i0, hi0, hz0, hs0, hb0⟩ := info_parts info8
  have hr1 : RefRow (w.alloc (.cells (refCells r).toArray 43)) w.heap.size r := heap_alloc_new _ _
  have hb1 := (Below.refl w.heap.size w).alloc (Nat.le_refl _) (.cells (refCells r).toArray 43)
  have hby := fun (y : World) (hy : Below w.heap.size w y) => rbytes_any r M z hM y (h.below hy)
  have hsum := fun y : World => refsum_any ⟨(macB M).toArray⟩ (by simpa [ByteArray.size] using hlen) y
  obtain ⟨SA, hSA⟩ : ∃ S : ByteArray, (⟨(macB M).toArray⟩ : ByteArray) = S := ⟨_, rfl⟩
  have hx : (Crc.sum 0#64 SA.data.toList).toNat = sumM M := by rw [← hSA]; rfl
  rw [hSA] at hby hsum
  rw [hx] at hsum
  have hxl := sumM_lt M
  rw [show sumB M = leB (sumM M) 8 from rfl]
  obtain ⟨x, hxe⟩ : ∃ x, sumM M = x := ⟨_, rfl⟩
  rw [hxe] at hsum hxl ⊢
  clear hx hxe hSA h
  rw [ref_eta] at hby ⊢
  have Hby := Lib.hid hby; clear hby
  have Hsum := Lib.hid hsum; clear hsum
  go_enter Tryz.func25, Tryz.ntmps25
  go_upto_region 1 with fail
  change Code.wp _ _ _ _ (w.alloc (.cells (refCells r).toArray 43))
  generalize w.alloc (.cells (refCells r).toArray 43) = w1 at *
  obtain ⟨c0, c1, c2, c3⟩ := hr1.cells
  have Hb1 := Lib.hid hb1; clear hb1 hr1
  go_wp2_with (first
    | ((with_reducible refine (Hby.out _ Hb1.out).mono ?_); rintro e w2 ⟨rfl, hb2⟩; have Hb2 := Lib.hid hb2; clear hb2)
    | ((with_reducible refine (Hsum.out _).mono ?_); rintro e w' ⟨rfl, rfl⟩))
  clear c0 c1 c2 c3 Hby Hsum
  have Hb := Lib.hid (Hb1.out.trans (Hb2.out.mono Hb1.out.size))
  have Hle := Lib.hid (Nat.le_trans Hb1.out.size Hb2.out.size)
  clear Hb1 Hb2
  go_loopw [3, 4, 5] (fun s3 s4 s5 wr => ∃ (i : Nat), i ≤ 8 ∧ s5 = .int .i64 (i : Int) ∧ s3 = .int .u64 ((x / 256 ^ i : Nat) : Int) ∧ OwnB wr w.heap.size 5 s4 (leB x i) ∧ Below w.heap.size w wr) (fun _ _ s5 _ => 8 - (intOf s5).toNat)
  case atStart => exact ⟨0, by omega, rfl, by rw [Nat.pow_zero, Nat.div_one], OwnB.nil _ _ _, Hb.out⟩
  case round =>
    clear Hb Hle
    obtain ⟨i, hi, rfl, rfl, ho, hbel⟩ := hrel
    obtain ⟨a, n, c, rfl⟩ := ho.read.slice
    have Hbel := Lib.hid hbel; clear hbel
    have Ho := Lib.hid ho; clear ho
    by_cases hi8 : i < 8
    · have hi8' : (i : Int) < 8 := by omega
      have hsucc := tsucc (n := i) (by omega)
      have hdiv : x / 256 ^ (i + 1) = x / 256 ^ i / 256 := by rw [Nat.pow_succ, Nat.div_div_eq_div_mul]
      have hstep := leB_div x i
      have hyl : x / 256 ^ i < 18446744073709551616 := Nat.lt_of_le_of_lt (Nat.div_le_self _ _) hxl
      generalize x / 256 ^ i = y at *
      have hm1 : (y : Int).tmod 256 = ((y % 256 : Nat) : Int) := by rw [Int.tmod_eq_emod_of_nonneg (by omega)]; omega
      have hm2 : IntKind.u64.wrap ((y : Int) / 256) = ((y / 256 : Nat) : Int) := by rw [IntKind.wrap_u64]; omega
      have hnews : bcells [UInt8.ofNat y] = [.int .u8 ((y : Int) % 256)] := by simp [bcells]
      have Hnews := Lib.hid hnews; clear hnews
      have Hle := Lib.hid Hbel.out.size
      have Hlen := Lib.hid (show (leB x i).length ≤ 100 by rw [leB_len]; omega)
      have Hstep := Lib.hid (And.intro hstep hdiv); clear hstep hdiv
      go_wp2_with (at_builtin; refine wpList_append_own_at _ rfl _ _ 61 rfl w.heap.size 5 i0 (.int .u8 0) 1 1 Tryz.underlying61 hi0 hz0 hs0 hb0 rfl (by decide) _ _ _ rfl (World.ownsRow.alloc Ho.out _) ⟨wr.heap.size, 0, none⟩ 1 1 (bcells [UInt8.ofNat y]) rfl rfl (by rw [Hnews.out]; exact cells_one _ _ _) (bcells_one _) (by have := Hlen.out; unfold maxLen; omega) (by have := Hlen.out; omega) (by have := Hle.out; simp; omega) ?_; intro v4 w4 ho4 hg4 _ _; have Ho4 := Lib.hid ho4; have Hg4 := Lib.hid hg4; clear ho4 hg4)
      go_roundw
      case rel =>
        refine ⟨i + 1, by omega, rfl, by rw [Hstep.out.2]; exact congrArg (Value.int .u64) (by omega), ?_, below_grown Hg4.out ((Hbel.out.alloc Hle.out _)) (by have := Hle.out; simp; omega) Ho.out.block⟩
        rw [Hstep.out.1]
        exact OwnB.of Ho4.out rfl rfl
      case measure => simp [intOf]; omega
    · have hi8' : ¬ (i : Int) < 8 := by omega
      obtain rfl : i = 8 := by omega
      clear hi8 hi
      have hcv := Ho.out.read.conv Tryz.underlying61 Tryz.underlying5 Tryz.underlying9
      go_wp2_with fail
      go_ret
      exact ⟨rfl, Hbel.out⟩
end Go.Proofs.YtkngadbeflepoaaGreat
