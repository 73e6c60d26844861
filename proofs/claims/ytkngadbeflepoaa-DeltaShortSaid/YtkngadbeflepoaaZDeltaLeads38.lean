/- Deltas: Diff. No condition but the machines' own. -/
import Derived.Test.YtkngadbeflepoaaZDeltaLeads34
import Derived.Test.YtkngadbeflepoaaZDeltaLeads30
namespace Go.Proofs.Ytkngadbeflepoaa
open Go.RowKit
/-- The delta of two machines. -/
def diffM (A B : MacV) : List UInt8 := sumB A ++ sumB B ++ [UInt8.ofNat B.mem] ++ clientsB A.tab B.tab ++ keysDB (diffL A.sh.kv B.sh.kv)
theorem chg_pair {A B : Prs} (hA : Asc A) (hB : Asc B) (h : ∀ p ∈ B, PairOk p) (h2 : ∀ p ∈ A, PairOk p) : ∀ c ∈ diffL A B, ChgOk c := by
  intro c hc
  have he := (diff_elem _ (Nat.le_refl _) hA hB).1 c hc
  refine ⟨?_, ?_⟩
  · rcases diff_keys _ (Nat.le_refl _) hc with ⟨v, h1⟩ | ⟨v, h1⟩
    · exact (h2 _ h1).1
    · exact (h _ h1).1
  · rcases he.b with ⟨_, h1⟩ | ⟨_, h1, _⟩
    · exact (h _ h1).2
    · rw [h1]; decide
theorem sumB_len (M : MacV) : (sumB M).length = 8 := leB_len _ 8
/-- A machine is loaded. -/
theorem mac_loads (ρ : Operand → Value) (o : Oper) (a : Operand) (h : o.op = .load 69 a) {g : Nat} {M : MacV} {P : Option Addr} (ha : ρ a = .pointer (some ⟨g, 0, none⟩)) {y : World} (hm : MacAt y g M P) :
    (execOp ρ o).run Try.prog y = .ok (.value (macV M P)) y := by
  simp only [execOp, h, ha]
  unfold macV
  rw [mac_eta M P]
  obtain ⟨⟨m0, m1, m14⟩, ⟨m2, m3, m4⟩, ⟨m5, m6, m7⟩, ⟨m8, m9, m10⟩, ⟨m11, m12, m13⟩⟩ := hm.cells
  go_simp
set_option maxRecDepth 100000 in
set_option maxHeartbeats 16000000 in
theorem ddiff_any (A B : MacV) (X Y : Tr) (hA : MacFit A) (hB : MacFit B) (w : World) (hX : TreeAt w X) (hY : TreeAt w Y) (hsX : X.sh = A.sh) (hsY : Y.sh = B.sh) :
    Calls Try.prog 48 #[macV A X.ptr, macV B Y.ptr] w fun e w' => e = .returned (.tuple #[.string (if A.all = B.all then ⟨(diffM A B).toArray⟩ else ByteArray.empty), .int .i64 (if A.all = B.all then 0 else 2)]) ∧ Below w.heap.size w w' := by
  obtain ⟨i0, hi0, hz0, hs0, hb0⟩ := info_parts info8
  obtain ⟨PA, hPA⟩ : ∃ P, X.ptr = P := ⟨_, rfl⟩
  obtain ⟨PB, hPB⟩ : ∃ P, Y.ptr = P := ⟨_, rfl⟩
  have hb1 := (Below.refl w.heap.size w).alloc (Nat.le_refl _) (.cells (macCells A PA).toArray 69)
  have hm1 : MacAt (w.alloc (.cells (macCells A PA).toArray 69)) w.heap.size A PA := heap_alloc_new _ _
  have hb2 := (Below.refl _ (w.alloc (.cells (macCells A PA).toArray 69))).alloc (Nat.le_refl _) (.cells (macCells B PB).toArray 69)
  have hm2 : MacAt ((w.alloc (.cells (macCells A PA).toArray 69)).alloc (.cells (macCells B PB).toArray 69)) (w.heap.size + 1) B PB := by
    have := heap_alloc_new (w.alloc (.cells (macCells A PA).toArray 69)) (.cells (macCells B PB).toArray 69)
    rw [World.size_alloc] at this
    exact this
  have hm1' := hm1.below hb2
  have h12 := hb1.trans (hb2.mono hb1.size)
  have hX2 := hX.below h12
  have hY2 := hY.below h12
  obtain ⟨VA, hVA⟩ : ∃ V, macV A PA = V := ⟨_, rfl⟩
  obtain ⟨VB, hVB⟩ : ∃ V, macV B PB = V := ⟨_, rfl⟩
  have HVA := Lib.hid hVA
  have HVB := Lib.hid hVB
  have hall := fun y : World => mall_any A PA y
  have hall2 := fun y : World => mall_any B PB y
  rw [hVA] at hall
  rw [hVB] at hall2
  have Hall := Lib.hid hall; clear hall
  have Hall2 := Lib.hid hall2; clear hall2
  have HPA := Lib.hid hPA
  have HPB := Lib.hid hPB
  rw [hPA, hPB]
  clear hPA hPB hVA hVB hb1 hb2 hm1 hX hY
  have Hfit := Lib.hid (And.intro hA hB)
  obtain ⟨R, hR⟩ : ∃ R : ByteArray, (if A.all = B.all then (⟨(diffM A B).toArray⟩ : ByteArray) else ByteArray.empty) = R := ⟨_, rfl⟩
  obtain ⟨rc, hrc⟩ : ∃ c : Int, (if A.all = B.all then 0 else 2 : Int) = c := ⟨_, rfl⟩
  rw [hR, hrc]
  have HR := Lib.hid (And.intro hR hrc); clear hR hrc
  unfold macV
  rw [mac_eta A PA, mac_eta B PB]
  have haa : A.all < 128 := hA.all
  have hba : B.all < 128 := hB.all
  have hbm : B.mem < 128 := hB.mem
  clear hA hB
  go_enter Try.func48, Try.ntmps48
  go_upto_region 1 with fail
  change Code.wp _ _ _ _ ((w.alloc (.cells (macCells A PA).toArray 69)).alloc (.cells (macCells B PB).toArray 69))
  generalize (w.alloc (.cells (macCells A PA).toArray 69)).alloc (.cells (macCells B PB).toArray 69) = w2 at *
  have HMA := Lib.hid hm1'; clear hm1'
  have HMB := Lib.hid hm2; clear hm2
  have H12 := Lib.hid h12; clear h12
  have HXY := Lib.hid (And.intro hX2 hY2); clear hX2 hY2
  have hvA := HVA.out
  unfold macV at hvA
  rw [mac_eta A PA] at hvA
  have hvB := HVB.out
  unfold macV at hvB
  rw [mac_eta B PB] at hvB
  rw [hvA, hvB]
  clear hvA hvB
  refine (wpIn_wide (n := 1)).1 ?_
  refine RegK.wpIn_region_can (F := Fence.wide) (KeptW w2) [(0, 0), (2, 0), (1, 1), (3, 1), (4, 0)] (by kernel_rfl) (by kernel_rfl) (by kernel_rfl) (fun _ _ d _ _ h => by cases d <;> exact h) ⟨rfl, rfl, rfl, Nat.le_refl _, fun _ _ => rfl⟩ ?_
  dsimp only [RegK.pick, List.getElem?_cons_zero, List.getElem?_cons_succ]
  change RegK.Can _ _ _ _ _ _ _ _ w2.drew
  have hkd : KeptW w2 w2.drew := ⟨rfl, rfl, rfl, Nat.le_refl _, fun _ _ => rfl⟩
  generalize w2.drew = z1 at *
  refine RegK.can_reads ?_
  intro K hK
  rw [if_pos (by simp [Region.wanted])]
  refine ⟨VA, fun y hy => ?_, hK _ ?_⟩
  · rw [← HVA.out]
    exact mac_loads _ _ _ rfl rfl (HMA.out.below (KeptW.bel hy))
  clear hK K
  go_simp
  refine RegK.can_reads ?_
  intro K hK
  rw [if_pos (by simp [Region.wanted])]
  refine ⟨VB, fun y hy => ?_, hK _ ?_⟩
  · rw [← HVB.out]
    exact mac_loads _ _ _ rfl rfl (HMB.out.below (KeptW.bel hy))
  clear hK K
  go_simp
  refine RegK.can_turns (fun _ => trivial) ?_
  intro K K0 hK hK0
  go_simp
  refine ⟨trivial, ?_⟩
  refine (callsIn_wide.2 (Hall.out z1)).mono ?_
  rintro e z2 ⟨rfl, hb7⟩
  have z2k : KeptW w2 z2 := KeptW.mono hkd hb7
  refine hK _ _ z2k ?_
  clear hK K hK0 K0
  refine RegK.can_turns (fun _ => trivial) ?_
  intro K K0 hK hK0
  go_simp
  refine ⟨trivial, ?_⟩
  refine (callsIn_wide.2 (Hall2.out z2)).mono ?_
  rintro e z3 ⟨rfl, hb7⟩
  have z3k : KeptW w2 z3 := KeptW.mono z2k hb7
  refine hK _ _ z3k ?_
  clear hK K hK0 K0
  refine RegK.can_reads ?_; intro K hK; go_simp; (first | refine ⟨_, fun _ _ => rfl, hK _ ?_⟩ | refine hK _ ?_); clear hK K
  refine RegK.can_nil ?_
  have Hk3 := Lib.hid z3k; clear z3k
  generalize z3 = w3 at *
  clear Hall Hall2
  by_cases heq : A.all = B.all
  · have heq' : ((A.all : Int) != (B.all : Int)) = false := by simp [heq]
    obtain ⟨hR, hrc⟩ := HR.out
    rw [if_pos heq] at hR hrc
    subst hrc
    have HR2 := Lib.hid hR; clear hR heq haa hba HR
    go_upto_region 3 with fail
    refine (wpIn_wide (n := 1)).1 ?_
    refine RegK.wpIn_region_can (F := Fence.wide) (KeptW w2) [(0, 0), (2, 0), (1, 1), (3, 1), (4, 0)] (by kernel_rfl) (by kernel_rfl) (by kernel_rfl) (fun _ _ d _ _ h => by cases d <;> exact h) (KeptW.mono Hk3.out ⟨rfl, rfl, rfl, Nat.le_refl _, fun _ _ => rfl⟩) ?_
    dsimp only [RegK.pick, List.getElem?_cons_zero, List.getElem?_cons_succ]
    change RegK.Can _ _ _ _ _ _ _ _ w3.drew
    have hkd : KeptW w2 w3.drew := (KeptW.mono Hk3.out ⟨rfl, rfl, rfl, Nat.le_refl _, fun _ _ => rfl⟩)
    generalize w3.drew = y1 at *
    refine RegK.can_reads ?_
    intro K hK
    rw [if_pos (by simp [Region.wanted])]
    refine ⟨VA, fun y hy => ?_, hK _ ?_⟩
    · rw [← HVA.out]
      exact mac_loads _ _ _ rfl rfl (HMA.out.below (KeptW.bel hy))
    clear hK K
    go_simp
    refine RegK.can_reads ?_
    intro K hK
    rw [if_pos (by simp [Region.wanted])]
    refine ⟨VB, fun y hy => ?_, hK _ ?_⟩
    · rw [← HVB.out]
      exact mac_loads _ _ _ rfl rfl (HMB.out.below (KeptW.bel hy))
    clear hK K
    go_simp
    refine RegK.can_turns (fun _ => trivial) ?_
    intro K K0 hK hK0
    go_simp
    refine ⟨trivial, ?_⟩
    have hd := putSum_any A X (macFit_by Hfit.out.1) (macB_len Hfit.out.1) (.slice none 0 0) ([]) w2.heap.size (Nat.zero_le _) y1 (KeptW.bel hkd).size (OwnB.nil _ _ _) (HXY.out.1.below (KeptW.bel hkd)) hsX
    rw [HPA.out, HVA.out] at hd
    refine (callsIn_wide.2 (hd)).mono ?_
    rintro e y2 ⟨u1, rfl, ho1, hb7⟩
    have y2k : KeptW w2 y2 := ((KeptW.bel hkd).trans hb7)
    refine hK _ _ y2k ?_
    clear hK K hK0 K0
    obtain ⟨a1, n1, c1, rfl⟩ := ho1.read.slice
    have Ho1 := Lib.hid ho1; clear ho1 hd hb7
    refine RegK.can_turns (fun _ => trivial) ?_
    intro K K0 hK hK0
    go_simp
    refine ⟨trivial, ?_⟩
    have hd := putSum_any B Y (macFit_by Hfit.out.2) (macB_len Hfit.out.2) (.slice a1 n1 c1) ([] ++ sumB A) w2.heap.size (by rw [List.nil_append, sumB_len]; decide) y2 (KeptW.bel y2k).size Ho1.out (HXY.out.2.below (KeptW.bel y2k)) hsY
    rw [HPB.out, HVB.out] at hd
    refine (callsIn_wide.2 (hd)).mono ?_
    rintro e y3 ⟨u2, rfl, ho2, hb7⟩
    have y3k : KeptW w2 y3 := ((KeptW.bel y2k).trans hb7)
    refine hK _ _ y3k ?_
    clear hK K hK0 K0
    obtain ⟨a2, n2, c2, rfl⟩ := ho2.read.slice
    have Ho2 := Lib.hid ho2; clear ho2 hd hb7
    refine RegK.can_reads ?_; intro K hK; go_simp; (first | refine ⟨_, fun _ _ => rfl, hK _ ?_⟩ | refine hK _ ?_); clear hK K
    refine RegK.can_nil ?_
    have Hk4 := Lib.hid y3k; clear y3k hkd Hk3 Ho1
    try clear y2k
    generalize y3 = w4 at *
    have hmem := fun y : World => mmem_any B PB y
    unfold macV at hmem
    rw [mac_eta B PB] at hmem
    have Hmem := Lib.hid hmem; clear hmem
    have hm8 : ((UInt8.ofNat B.mem).toNat : Int) = (B.mem : Int) := by simp; omega
    have Hone := Lib.hid (fun y : World => (show ReadB (y.alloc (.cells #[.int .u8 (B.mem : Int)] 5)) (.slice (some ⟨y.heap.size, 0, none⟩) 1 1) [UInt8.ofNat B.mem] by
      have h := ReadB.one y (UInt8.ofNat B.mem) 5
      rwa [hm8] at h))
    clear hm8
    obtain ⟨⟨m0, m1, m14⟩, ⟨m2, m3, m4⟩, ⟨m5, m6, m7⟩, ⟨m8, m9, m10⟩, ⟨m11, m12, m13⟩⟩ := (HMB.out.below (KeptW.bel Hk4.out)).cells
    go_upto_region 5 with (first
      | ((with_reducible refine (Hmem.out _).mono ?_); rintro e w5 ⟨rfl, hb5⟩; have Hk5 := Lib.hid (show Below w2.heap.size w2 w5 from (KeptW.bel Hk4.out).trans (hb5.mono (KeptW.bel Hk4.out).size)); have Ho5 := Lib.hid (Ho2.out.below hb5); clear hb5)
      | (at_builtin; refine wpList_append_read rfl _ _ 60 rfl w2.heap.size 5 i0 (.int .u8 0) Try.underlying60 hi0 hz0 hs0 hb0 rfl _ _ _ rfl (World.ownsRow.alloc Ho5.out _) _ [UInt8.ofNat B.mem] rfl (Hone.out _) (by show ([] ++ sumB A ++ sumB B).length + 1 ≤ _; rw [List.length_append, List.length_append, sumB_len, sumB_len]; decide) (by have := Hk5.out.size; simp; omega) ?_; intro v6 w6 ho6 hg6; have Ho6 := Lib.hid (OwnB.of ho6 rfl rfl); clear ho6; have Hk6 := Lib.hid (show KeptW w2 w6 from below_grown hg6 (Hk5.out.alloc Hk5.out.size _) (by have := Hk5.out.size; simp; omega) Ho5.out.block); clear hg6))
    clear Hone Hmem m0 m1 m2 m3 m4 m5 m6 m7 m8 m9 m10 m11 m12 m13 m14 Hk4 Ho2 Hk5 Ho5
    obtain ⟨a3, n3, c3, rfl⟩ := Ho6.out.read.slice
    have Hod := Lib.hid (Ho6.out.below (w' := w6.drew) ⟨rfl, rfl, rfl, Nat.le_refl _, fun _ _ => rfl⟩)
    have HtA := Lib.hid (fun y : World => (show Calls Try.prog 45 #[VA] y fun e w' => e = .returned (.agg (tabCells A.tab).toArray) ∧ Below y.heap.size y w' by rw [← HVA.out]; exact mtable_any A PA y))
    have HtB := Lib.hid (fun y : World => (show Calls Try.prog 45 #[VB] y fun e w' => e = .returned (.agg (tabCells B.tab).toArray) ∧ Below y.heap.size y w' by rw [← HVB.out]; exact mtable_any B PB y))
    refine (wpIn_wide (n := 1)).1 ?_
    refine RegK.wpIn_region_can (F := Fence.wide) (KeptW w2) [(0, 0), (1, 0), (3, 0), (2, 1), (4, 1), (5, 1), (6, 0)] (by kernel_rfl) (by kernel_rfl) (by kernel_rfl) (fun _ _ d _ _ h => by cases d <;> exact h) (KeptW.mono Hk6.out ⟨rfl, rfl, rfl, Nat.le_refl _, fun _ _ => rfl⟩) ?_
    dsimp only [RegK.pick, List.getElem?_cons_zero, List.getElem?_cons_succ]
    change RegK.Can _ _ _ _ _ _ _ _ w6.drew
    have hkd : KeptW w2 w6.drew := (KeptW.mono Hk6.out ⟨rfl, rfl, rfl, Nat.le_refl _, fun _ _ => rfl⟩)
    generalize w6.drew = q1 at *
    refine RegK.can_reads ?_; intro K hK; go_simp; (first | refine ⟨_, fun _ _ => rfl, hK _ ?_⟩ | refine hK _ ?_); clear hK K
    refine RegK.can_reads ?_
    intro K hK
    rw [if_pos (by simp [Region.wanted])]
    refine ⟨VA, fun y hy => ?_, hK _ ?_⟩
    · rw [← HVA.out]
      exact mac_loads _ _ _ rfl rfl (HMA.out.below (KeptW.bel hy))
    clear hK K
    go_simp
    refine RegK.can_reads ?_
    intro K hK
    rw [if_pos (by simp [Region.wanted])]
    refine ⟨VB, fun y hy => ?_, hK _ ?_⟩
    · rw [← HVB.out]
      exact mac_loads _ _ _ rfl rfl (HMB.out.below (KeptW.bel hy))
    clear hK K
    go_simp
    refine RegK.can_turns (fun _ => trivial) ?_
    intro K K0 hK hK0
    go_simp
    refine ⟨trivial, ?_⟩
    refine (callsIn_wide.2 (HtA.out q1)).mono ?_
    rintro e q2 ⟨rfl, hb7⟩
    have q2k : KeptW w2 q2 := KeptW.mono hkd hb7
    refine hK _ _ q2k ?_
    clear hK K hK0 K0
    have Hoq := Lib.hid (Hod.out.below hb7); clear hb7
    refine RegK.can_turns (fun _ => trivial) ?_
    intro K K0 hK hK0
    go_simp
    refine ⟨trivial, ?_⟩
    refine (callsIn_wide.2 (HtB.out q2)).mono ?_
    rintro e q3 ⟨rfl, hb7⟩
    have q3k : KeptW w2 q3 := KeptW.mono q2k hb7
    refine hK _ _ q3k ?_
    clear hK K hK0 K0
    have Hor := Lib.hid (Hoq.out.below hb7); clear hb7
    refine RegK.can_turns (fun _ => trivial) ?_
    intro K K0 hK hK0
    go_simp
    refine ⟨trivial, ?_⟩
    have hd := putClients_any A.tab B.tab (macFit_by Hfit.out.2).tab (.slice a3 n3 c3) _ w2.heap.size (by simp [sumB, leB_len]) q3 (KeptW.bel q3k).size Hor.out
    refine (callsIn_wide.2 (hd)).mono ?_
    rintro e q4 ⟨u3, rfl, ho3, hb7⟩
    have q4k : KeptW w2 q4 := ((KeptW.bel q3k).trans hb7)
    refine hK _ _ q4k ?_
    clear hK K hK0 K0
    obtain ⟨a4, n4, c4, rfl⟩ := ho3.read.slice
    have Ho7 := Lib.hid ho3; clear ho3 hd hb7
    refine RegK.can_reads ?_; intro K hK; go_simp; (first | refine ⟨_, fun _ _ => rfl, hK _ ?_⟩ | refine hK _ ?_); clear hK K
    refine RegK.can_nil ?_
    have Hk7 := Lib.hid q4k; clear q4k hkd Hk6 Ho6 Hod Hoq Hor HtA HtB
    try clear q2k
    try clear q3k
    generalize q4 = w7 at *
    go_upto_region 6 with fail
    have Hod := Lib.hid (Ho7.out.below (w' := w7.drew) ⟨rfl, rfl, rfl, Nat.le_refl _, fun _ _ => rfl⟩)
    have HtA := Lib.hid (fun y : World => (show Calls Try.prog 46 #[VA] y fun e w' => e = .returned (.pointer PA) ∧ Below y.heap.size y w' by rw [← HVA.out]; exact mtree_any A PA y))
    have HtB := Lib.hid (fun y : World => (show Calls Try.prog 46 #[VB] y fun e w' => e = .returned (.pointer PB) ∧ Below y.heap.size y w' by rw [← HVB.out]; exact mtree_any B PB y))
    have hbA := macFit_by Hfit.out.1
    have hbB := macFit_by Hfit.out.2
    have hcl := cliB_len A.tab hbB.tab 4
    refine (wpIn_wide (n := 1)).1 ?_
    refine RegK.wpIn_region_can (F := Fence.wide) (KeptW w2) [(0, 0), (1, 0), (3, 0), (2, 1), (4, 1), (5, 1), (6, 0)] (by kernel_rfl) (by kernel_rfl) (by kernel_rfl) (fun _ _ d _ _ h => by cases d <;> exact h) (KeptW.mono Hk7.out ⟨rfl, rfl, rfl, Nat.le_refl _, fun _ _ => rfl⟩) ?_
    dsimp only [RegK.pick, List.getElem?_cons_zero, List.getElem?_cons_succ]
    change RegK.Can _ _ _ _ _ _ _ _ w7.drew
    have hkd : KeptW w2 w7.drew := (KeptW.mono Hk7.out ⟨rfl, rfl, rfl, Nat.le_refl _, fun _ _ => rfl⟩)
    generalize w7.drew = r1 at *
    refine RegK.can_reads ?_; intro K hK; go_simp; (first | refine ⟨_, fun _ _ => rfl, hK _ ?_⟩ | refine hK _ ?_); clear hK K
    refine RegK.can_reads ?_
    intro K hK
    rw [if_pos (by simp [Region.wanted])]
    refine ⟨VA, fun y hy => ?_, hK _ ?_⟩
    · rw [← HVA.out]
      exact mac_loads _ _ _ rfl rfl (HMA.out.below (KeptW.bel hy))
    clear hK K
    go_simp
    refine RegK.can_reads ?_
    intro K hK
    rw [if_pos (by simp [Region.wanted])]
    refine ⟨VB, fun y hy => ?_, hK _ ?_⟩
    · rw [← HVB.out]
      exact mac_loads _ _ _ rfl rfl (HMB.out.below (KeptW.bel hy))
    clear hK K
    go_simp
    refine RegK.can_turns (fun _ => trivial) ?_
    intro K K0 hK hK0
    go_simp
    refine ⟨trivial, ?_⟩
    refine (callsIn_wide.2 (HtA.out r1)).mono ?_
    rintro e r2 ⟨rfl, hb7⟩
    have r2k : KeptW w2 r2 := KeptW.mono hkd hb7
    refine hK _ _ r2k ?_
    clear hK K hK0 K0
    have Hoq := Lib.hid (Hod.out.below hb7); clear hb7
    refine RegK.can_turns (fun _ => trivial) ?_
    intro K K0 hK hK0
    go_simp
    refine ⟨trivial, ?_⟩
    refine (callsIn_wide.2 (HtB.out r2)).mono ?_
    rintro e r3 ⟨rfl, hb7⟩
    have r3k : KeptW w2 r3 := KeptW.mono r2k hb7
    refine hK _ _ r3k ?_
    clear hK K hK0 K0
    have Hor := Lib.hid (Hoq.out.below hb7); clear hb7
    refine RegK.can_turns (fun _ => trivial) ?_
    intro K K0 hK hK0
    go_simp
    refine ⟨trivial, ?_⟩
    have hd := putKeys_any X Y (.slice a4 n4 c4) _ (by simp [sumB, leB_len, clientsB]; omega) r3 Hor.out.read (HXY.out.1.below (KeptW.bel r3k)) (HXY.out.2.below (KeptW.bel r3k)) (by rw [hsX]; exact Hfit.out.1.kv.asc) (by rw [hsY]; exact Hfit.out.2.kv.asc) (by rw [sh_cnt, hsX]; exact hbA.num) (by rw [sh_cnt, hsY]; exact hbB.num) (by unfold Tr.kvs; rw [hsX, hsY]; exact chg_pair Hfit.out.1.kv.asc Hfit.out.2.kv.asc hbB.kv hbA.kv)
    rw [HPA.out, HPB.out] at hd
    refine (callsIn_wide.2 (hd)).mono ?_
    rintro e r4 ⟨u3, rfl, ho3, hb7⟩
    have r4k : KeptW w2 r4 := KeptW.mono r3k hb7
    refine hK _ _ r4k ?_
    clear hK K hK0 K0
    obtain ⟨a5, n5, c5, rfl⟩ := ho3.read.slice
    have Ho8 := Lib.hid ho3; clear ho3 hd hb7
    refine RegK.can_reads ?_; intro K hK; go_simp; (first | refine ⟨_, fun _ _ => rfl, hK _ ?_⟩ | refine hK _ ?_); clear hK K
    refine RegK.can_nil ?_
    have Hk8 := Lib.hid r4k
    have hres : diffM A B = [] ++ sumB A ++ sumB B ++ [UInt8.ofNat B.mem] ++ clientsB A.tab B.tab ++ keysDB (diffL X.kvs Y.kvs) := by unfold Tr.kvs; rw [hsX, hsY]; rfl
    rw [← hres] at Ho8
    have hcv := Ho8.out.read.conv Try.underlying60 Try.underlying5 Try.underlying9
    rw [HR2.out] at hcv
    go_wp2_with fail
    refine bodyPost_ret (v := .tuple #[.string R, .int .i64 0]) (by simp [results, Try.results48, go_sem]) rfl ?_
    exact ⟨rfl, H12.out.trans ((KeptW.bel Hk8.out).mono H12.out.size)⟩
  · have heq' : ((A.all : Int) != (B.all : Int)) = true := by simp; omega
    obtain ⟨hR, hrc⟩ := HR.out
    rw [if_neg heq] at hR hrc
    subst hR hrc
    clear heq HR
    go_wp2_with fail
    refine bodyPost_ret (v := .tuple #[.string ByteArray.empty, .int .i64 2]) (by simp [results, Try.results48, go_sem] <;> rfl) rfl ?_
    exact ⟨rfl, H12.out.trans ((KeptW.bel Hk3.out).mono H12.out.size)⟩
end Go.Proofs.Ytkngadbeflepoaa
