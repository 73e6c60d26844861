/- Machines: the law's same, of two that are the same but for their trees' places. Condition: few enough keys. -/
import Derived.Test.YtkngadbeflepoaaMMachineBack19
import Derived.Test.YtkngadbeflepoaaMMachineBack27
import Derived.Test.YtkngadbeflepoaaMMachineBack5
namespace Go.Proofs.Ytkngadbeflepoaa
open Go.RowKit Go.Shelf
attribute [local go_sem] Oper.semAt_some

structure SameI (w0 : World) (M : MacV) (P Q : Option Addr) (w : World) : Prop where
  a : MacAt w w0.heap.size M P
  b : MacAt w (w0.heap.size + 1) M Q
  r : BoxAt w (w0.heap.size + 2) (.bool false) 4
  bel : Below w0.heap.size w0 w
theorem SameI.below {w0 w w' : World} {M : MacV} {P Q : Option Addr} (h : SameI w0 M P Q w) (hb : Below w.heap.size w w') : SameI w0 M P Q w' := ⟨h.a.below hb, h.b.below hb, h.r.below hb, h.bel.trans (hb.mono h.bel.size)⟩
theorem same_start (w : World) (M : MacV) (P Q : Option Addr) : SameI w M P Q (((w.alloc (.cells (macCells M P).toArray 69)).alloc (.cells (macCells M Q).toArray 69)).alloc (.cells #[.bool false] 4)) := by
  have b1 := (Below.refl w.heap.size w).alloc (Nat.le_refl _) (.cells (macCells M P).toArray 69)
  have b2 := b1.alloc b1.size (.cells (macCells M Q).toArray 69)
  have s1 : (w.alloc (.cells (macCells M P).toArray 69)).heap.size = w.heap.size + 1 := by simp
  have s2 : ((w.alloc (.cells (macCells M P).toArray 69)).alloc (.cells (macCells M Q).toArray 69)).heap.size = w.heap.size + 2 := by simp
  have v1 : MacAt (w.alloc (.cells (macCells M P).toArray 69)) w.heap.size M P := heap_alloc_new _ _
  have v2 : MacAt ((w.alloc (.cells (macCells M P).toArray 69)).alloc (.cells (macCells M Q).toArray 69)) _ M Q := heap_alloc_new _ _
  have v3 := BoxAt.new ((w.alloc (.cells (macCells M P).toArray 69)).alloc (.cells (macCells M Q).toArray 69)) (.bool false) 4
  rw [s1] at v2
  rw [s2] at v3
  have a1 : ∀ (u : World) (o : Obj), Below u.heap.size u (u.alloc o) := fun u o => (Below.refl _ _).alloc (Nat.le_refl _) _
  exact ⟨(v1.below (a1 _ _)).below (a1 _ _), v2.below (a1 _ _), v3, b2.alloc b2.size _⟩

set_option maxRecDepth 100000 in
set_option maxHeartbeats 16000000 in
theorem same_in (M : MacV) (T U : Tr) (w : World) (hT : TreeAt w T) (hU : TreeAt w U) (hsh : T.sh = U.sh) (hasc : Asc T.sh.kv) (hcnt : T.cnt ≤ 1000000) (mm : Nat) (hmm : 3 ≤ mm) :
    CallsIn Fence.wide mm Try.prog 33 #[macV M T.ptr, macV M U.ptr] w fun e w' => e = .returned (.bool true) ∧ Below w.heap.size w w' := by
  have hnil : diffL T.kvs U.kvs = [] := by
    show diffL T.sh.kv U.sh.kv = []
    rw [← hsh]
    exact diff_self _
  have hcU : U.cnt ≤ 1000000 := by rw [sh_cnt, ← hsh, ← sh_cnt]; exact hcnt
  have hascU : Asc U.sh.kv := by rw [← hsh]; exact hasc
  have Hnil := Lib.hid hnil; clear hnil
  have HT := Lib.hid hT; clear hT
  have HU := Lib.hid hU; clear hU
  obtain ⟨P, hP⟩ : ∃ P, T.ptr = P := ⟨_, rfl⟩
  obtain ⟨Q, hQ⟩ : ∃ P, U.ptr = P := ⟨_, rfl⟩
  have hS := same_start w M P Q
  rw [hP, hQ]
  have HP := Lib.hid hP; clear hP
  have HQ := Lib.hid hQ; clear hQ
  unfold macV
  refine callsIn_of_wp_marks Try.func33 rfl trivial ?_ rfl
  simp only [Try.ntmps33, List.size_toArray, List.length_cons, List.length_nil, Nat.reduceAdd, Nat.reduceSub, Array.replicate_succ, Array.replicate_zero, List.push_toArray, List.append_toArray, List.nil_append, List.cons_append]
  refine wpIn_wide.2 ?_
  go_upto_region 1 with fail
  rw [show w.heap.size + 1 + 1 = w.heap.size + 2 by omega]
  change Code.wp _ _ _ _ (((w.alloc (.cells (macCells M P).toArray 69)).alloc (.cells (macCells M Q).toArray 69)).alloc (.cells #[.bool false] 4))
  generalize ((w.alloc (.cells (macCells M P).toArray 69)).alloc (.cells (macCells M Q).toArray 69)).alloc (.cells #[.bool false] 4) = w1 at *
  have HS := Lib.hid hS; clear hS
  have HTa := Lib.hid (HT.out.below HS.out.bel)
  have HUa := Lib.hid (HU.out.below HS.out.bel)
  refine (wpIn_wide (n := 1)).1 ?_
  refine RegK.wpIn_region_calm (F := Fence.wide) (KeptW w1) [(0, 0), (2, 0), (1, 1), (3, 1), (4, 1), (5, 0)] (by kernel_rfl) (by kernel_rfl) (by kernel_rfl) (KeptW.drew w1) ?_
  dsimp only [RegK.pick, List.getElem?_cons_zero, List.getElem?_cons_succ]
  change RegK.Can _ _ _ _ _ _ _ _ w1.drew
  have hkd := KeptW.drew w1
  refine RegK.can_reads ?_
  intro K hK
  go_simp
  refine ⟨.agg (macCells M P).toArray, fun y hy => ?_, hK _ ?_⟩
  · rw [mac_eta M P]
    obtain ⟨⟨m0, m1, m14⟩, ⟨m2, m3, m4⟩, ⟨m5, m6, m7⟩, ⟨m8, m9, m10⟩, ⟨m11, m12, m13⟩⟩ := (HS.out.a.below (KeptW.bel hy)).cells
    go_simp
  clear hK K
  refine RegK.can_reads ?_
  intro K hK
  go_simp
  refine ⟨.agg (macCells M Q).toArray, fun y hy => ?_, hK _ ?_⟩
  · rw [mac_eta M Q]
    obtain ⟨⟨m0, m1, m14⟩, ⟨m2, m3, m4⟩, ⟨m5, m6, m7⟩, ⟨m8, m9, m10⟩, ⟨m11, m12, m13⟩⟩ := (HS.out.b.below (KeptW.bel hy)).cells
    go_simp
  clear hK K
  refine RegK.can_narrows (fun _ => trivial) ?_
  intro K K0 hK hK0
  go_simp
  refine ⟨trivial, ?_⟩
  refine (callsIn_wide.2 (show Calls Try.prog 46 #[.agg (macCells M P).toArray] w1.drew _ from mtree_any M P w1.drew)).mono ?_
  rintro e xa ⟨rfl, hb⟩
  have hxa : KeptW w1 xa := KeptW.mono hkd hb
  refine hK (KeptW w1) _ _ (fun y h => h) hxa ?_
  clear hK K K0 hK0 hb
  refine RegK.can_narrows (fun _ => trivial) ?_
  intro K K0 hK hK0
  go_simp
  refine ⟨trivial, ?_⟩
  refine (callsIn_wide.2 (show Calls Try.prog 46 #[.agg (macCells M Q).toArray] xa _ from mtree_any M Q xa)).mono ?_
  rintro e ya ⟨rfl, hb⟩
  have hya : KeptW w1 ya := KeptW.mono hxa hb
  refine hK (KeptW w1) _ _ (fun y h => h) hya ?_
  clear hK K K0 hK0 hb
  refine RegK.can_narrows (fun _ => trivial) ?_
  intro K K0 hK hK0
  go_simp
  refine ⟨trivial, ?_⟩
  refine (diff_in _ P Q ya).mono ?_
  rintro e za ⟨rfl, hz⟩
  have hbz : Below ya.heap.size ya za := by rw [hz]; exact ((Below.refl _ _).alloc (Nat.le_refl _) _).alloc (by simp) _
  have hsz : za.heap.size = ya.heap.size + 2 := by rw [hz]; simp
  have hba : BoxAt za ya.heap.size (.pointer P) 25 := by
    rw [hz]
    exact (BoxAt.new ya (.pointer P) 25).below ((Below.refl _ _).alloc (Nat.le_refl _) _)
  have hbb : BoxAt za (ya.heap.size + 1) (.pointer Q) 25 := by
    have h := BoxAt.new (ya.alloc (.cells #[.pointer P] 25)) (.pointer Q) 25
    rw [World.size_alloc] at h
    rw [hz]
    exact h
  have hxz : KeptW w1 za := KeptW.mono hya hbz
  refine hK (KeptW w1) _ _ (fun y h => h) hxz ?_
  clear hK K K0 hK0 hz
  iterate 1 (refine RegK.can_reads ?_; intro K hK; go_simp; (first | (refine ⟨_, fun _ _ => rfl, hK _ ?_⟩) | (refine hK _ ?_)); clear hK K)
  refine RegK.can_calm ?_
  have hseq := dseq_some
  go_wp2_with fail
  clear hseq
  have hloA : T.Lo ya.heap.size := (HTa.out.below (KeptW.bel hya)).lo
  have hloB : U.Lo ya.heap.size := (HUa.out.below (KeptW.bel hya)).lo
  have hstops := diff_stops (mm - 1) ya.heap.size (ya.heap.size + 1) ya.heap.size (ya.heap.size + 2) T U za (by omega) (by omega) (by omega) (by omega) (by rw [HP.out]; exact hba.cell) (by rw [HQ.out]; exact hbb.cell) (HTa.out.below (KeptW.bel hxz)) (HUa.out.below (KeptW.bel hxz)) hloA.outOf hloB.outOf hasc hascU (by omega)
  rw [Hnil.out] at hstops
  have Hstops := Lib.hid hstops; clear hstops
  have Hsz := Lib.hid hsz; clear hsz
  have Hxz := Lib.hid (KeptW.bel hxz); clear hxz
  clear hloA hloB hba hbb hbz hxa hya hkd
  refine (wpIn_wide (n := mm)).1 ?_
  refine Range.wpIn_range (F := Fence.wide) rfl (by omega) (gf := 113) (lb := #[.pointer (some ⟨ya.heap.size, 0, none⟩), .pointer (some ⟨ya.heap.size + 1, 0, none⟩)]) rfl trivial (enters_of Try.func113 (by kernel_rfl) rfl)
    Hstops.out (fun h k => h.trans k) (keepC_b (by have := Hsz.out; omega)) (Below.refl _ _) (fun _ => rfl)
    (fun _ W => Below za.heap.size za W) (fun _ _ _ => False) (fun s W W' row hs hg hr => below_own (Nat.le_refl _) hs hg hr) (fun _ _ _ _ _ h _ _ => h) (Below.refl _ _) ?round ?done ?stop
  case round =>
    rintro l pre x V2 hi hlen
    exact absurd hlen (by simp)
  case stop =>
    rintro E c pre V2 hE hpre h _
    exact h.elim
  case done =>
    rintro E ys W hE _ hI hK
    clear Hstops
    have HSw := Lib.hid (HS.out.below (Hxz.out.trans (hI.mono Hxz.out.size)))
    have HK := Lib.hid hK; clear hK
    have HE := Lib.hid (show w.heap.size + 2 < E from Nat.lt_of_lt_of_le HS.out.r.lt (Nat.le_trans Hxz.out.size hE))
    clear HS HTa HUa hI hE Hxz Hsz
    go_upto_region 6 with fail
    refine (wpIn_wide (n := 1)).1 ?_
    refine RegK.wpIn_region_calm (F := Fence.wide) (KeptW W) [(0, 0), (2, 0), (1, 1), (3, 1), (4, 0), (5, 0), (6, 0), (8, 0), (7, 1), (9, 1), (10, 0), (11, 0), (12, 0), (13, 0), (15, 0), (14, 1), (16, 1), (17, 0), (18, 0), (19, 3)] (by kernel_rfl) (by kernel_rfl) (by kernel_rfl) (KeptW.drew W) ?_
    dsimp only [RegK.pick, List.getElem?_cons_zero, List.getElem?_cons_succ]
    change RegK.Can _ _ _ _ _ _ _ _ W.drew
    have hkd := KeptW.drew W
    refine RegK.can_reads ?_
    intro K hK
    go_simp
    refine ⟨.agg (macCells M P).toArray, fun y hy => ?_, hK _ ?_⟩
    · rw [mac_eta M P]
      obtain ⟨⟨m0, m1, m14⟩, ⟨m2, m3, m4⟩, ⟨m5, m6, m7⟩, ⟨m8, m9, m10⟩, ⟨m11, m12, m13⟩⟩ := (HSw.out.a.below (KeptW.bel hy)).cells
      go_simp
    clear hK K
    refine RegK.can_reads ?_
    intro K hK
    go_simp
    refine ⟨.agg (macCells M Q).toArray, fun y hy => ?_, hK _ ?_⟩
    · rw [mac_eta M Q]
      obtain ⟨⟨m0, m1, m14⟩, ⟨m2, m3, m4⟩, ⟨m5, m6, m7⟩, ⟨m8, m9, m10⟩, ⟨m11, m12, m13⟩⟩ := (HSw.out.b.below (KeptW.bel hy)).cells
      go_simp
    clear hK K
    refine RegK.can_narrows (fun _ => trivial) ?_
    intro K K0 hK hK0
    go_simp
    refine ⟨trivial, ?_⟩
    refine (callsIn_wide.2 (show Calls Try.prog 43 #[.agg (macCells M P).toArray] W.drew _ from mall_any M P W.drew)).mono ?_
    rintro e x1 ⟨rfl, hb⟩
    have hx1 : KeptW W x1 := KeptW.mono hkd hb
    refine hK (KeptW W) _ _ (fun y h => h) hx1 ?_
    clear hK K K0 hK0 hb
    refine RegK.can_narrows (fun _ => trivial) ?_
    intro K K0 hK hK0
    go_simp
    refine ⟨trivial, ?_⟩
    refine (callsIn_wide.2 (show Calls Try.prog 43 #[.agg (macCells M Q).toArray] x1 _ from mall_any M Q x1)).mono ?_
    rintro e x2 ⟨rfl, hb⟩
    have hx2 : KeptW W x2 := KeptW.mono hx1 hb
    refine hK (KeptW W) _ _ (fun y h => h) hx2 ?_
    clear hK K K0 hK0 hb
    iterate 2 (refine RegK.can_reads ?_; intro K hK; go_simp; (first | (refine ⟨_, fun _ _ => rfl, hK _ ?_⟩) | (refine hK _ ?_)); clear hK K)
    refine RegK.can_reads ?_
    intro K hK
    go_simp
    refine ⟨.agg (macCells M P).toArray, fun y hy => ?_, hK _ ?_⟩
    · rw [mac_eta M P]
      obtain ⟨⟨m0, m1, m14⟩, ⟨m2, m3, m4⟩, ⟨m5, m6, m7⟩, ⟨m8, m9, m10⟩, ⟨m11, m12, m13⟩⟩ := (HSw.out.a.below (KeptW.bel hy)).cells
      go_simp
    clear hK K
    refine RegK.can_reads ?_
    intro K hK
    go_simp
    refine ⟨.agg (macCells M Q).toArray, fun y hy => ?_, hK _ ?_⟩
    · rw [mac_eta M Q]
      obtain ⟨⟨m0, m1, m14⟩, ⟨m2, m3, m4⟩, ⟨m5, m6, m7⟩, ⟨m8, m9, m10⟩, ⟨m11, m12, m13⟩⟩ := (HSw.out.b.below (KeptW.bel hy)).cells
      go_simp
    clear hK K
    refine RegK.can_narrows (fun _ => trivial) ?_
    intro K K0 hK hK0
    go_simp
    refine ⟨trivial, ?_⟩
    refine (callsIn_wide.2 (show Calls Try.prog 44 #[.agg (macCells M P).toArray] x2 _ from mmem_any M P x2)).mono ?_
    rintro e x3 ⟨rfl, hb⟩
    have hx3 : KeptW W x3 := KeptW.mono hx2 hb
    refine hK (KeptW W) _ _ (fun y h => h) hx3 ?_
    clear hK K K0 hK0 hb
    refine RegK.can_narrows (fun _ => trivial) ?_
    intro K K0 hK hK0
    go_simp
    refine ⟨trivial, ?_⟩
    refine (callsIn_wide.2 (show Calls Try.prog 44 #[.agg (macCells M Q).toArray] x3 _ from mmem_any M Q x3)).mono ?_
    rintro e x4 ⟨rfl, hb⟩
    have hx4 : KeptW W x4 := KeptW.mono hx3 hb
    refine hK (KeptW W) _ _ (fun y h => h) hx4 ?_
    clear hK K K0 hK0 hb
    iterate 3 (refine RegK.can_reads ?_; intro K hK; go_simp; (first | (refine ⟨_, fun _ _ => rfl, hK _ ?_⟩) | (refine hK _ ?_)); clear hK K)
    refine RegK.can_reads ?_
    intro K hK
    go_simp
    refine ⟨.agg (macCells M P).toArray, fun y hy => ?_, hK _ ?_⟩
    · rw [mac_eta M P]
      obtain ⟨⟨m0, m1, m14⟩, ⟨m2, m3, m4⟩, ⟨m5, m6, m7⟩, ⟨m8, m9, m10⟩, ⟨m11, m12, m13⟩⟩ := (HSw.out.a.below (KeptW.bel hy)).cells
      go_simp
    clear hK K
    refine RegK.can_reads ?_
    intro K hK
    go_simp
    refine ⟨.agg (macCells M Q).toArray, fun y hy => ?_, hK _ ?_⟩
    · rw [mac_eta M Q]
      obtain ⟨⟨m0, m1, m14⟩, ⟨m2, m3, m4⟩, ⟨m5, m6, m7⟩, ⟨m8, m9, m10⟩, ⟨m11, m12, m13⟩⟩ := (HSw.out.b.below (KeptW.bel hy)).cells
      go_simp
    clear hK K
    refine RegK.can_narrows (fun _ => trivial) ?_
    intro K K0 hK hK0
    go_simp
    refine ⟨trivial, ?_⟩
    refine (callsIn_wide.2 (show Calls Try.prog 45 #[.agg (macCells M P).toArray] x4 _ from mtable_any M P x4)).mono ?_
    rintro e x5 ⟨rfl, hb⟩
    have hx5 : KeptW W x5 := KeptW.mono hx4 hb
    refine hK (KeptW W) _ _ (fun y h => h) hx5 ?_
    clear hK K K0 hK0 hb
    refine RegK.can_narrows (fun _ => trivial) ?_
    intro K K0 hK hK0
    go_simp
    refine ⟨trivial, ?_⟩
    refine (callsIn_wide.2 (show Calls Try.prog 45 #[.agg (macCells M Q).toArray] x5 _ from mtable_any M Q x5)).mono ?_
    rintro e x6 ⟨rfl, hb⟩
    have hx6 : KeptW W x6 := KeptW.mono hx5 hb
    refine hK (KeptW W) _ _ (fun y h => h) hx6 ?_
    clear hK K K0 hK0 hb
    refine RegK.can_reads ?_
    intro K hK
    go_simp
    refine ⟨.bool true, fun y hy => ?_, hK _ ?_⟩
    · have f0 := tab_eql M.tab y
      go_simp
    clear hK K
    iterate 1 (refine RegK.can_reads ?_; intro K hK; go_simp; (first | (refine ⟨_, fun _ _ => rfl, hK _ ?_⟩) | (refine hK _ ?_)); clear hK K)
    have z0 := (HSw.out.below (KeptW.bel hx6)).r.cell
    have z1 := (HSw.out.below (KeptW.bel hx6)).r.frozen
    refine RegK.can_frees (fun _ => trivial) ?_
    intro K K0 hK hK0
    go_simp
    refine hK (fun _ => True) _ _ trivial ?_
    clear hK K hK0 K0
    refine RegK.can_calm ?_
    clear z0 z1
    have l7 := HSw.out.below (KeptW.bel hx6)
    have hx1' : (x6.setCell ⟨w.heap.size + 2, 0, none⟩ (.bool true)).heap[E]? = some (.deferred (some [])) := (Below.heap_setCell _ _ _ _ (by show E ≠ w.heap.size + 2; have := HE.out; omega)).trans (((KeptW.bel hx6).block E (Array.getElem?_eq_some_iff.1 HK.out).1).trans HK.out)
    have hbx : BoxAt (x6.setCell ⟨w.heap.size + 2, 0, none⟩ (.bool true)) (w.heap.size + 2) (.bool true) 4 := l7.r.set
    have hbl : Below w.heap.size w (x6.setCell ⟨w.heap.size + 2, 0, none⟩ (.bool true)) := below_set l7.bel (by omega)
    go_wp2_with fail
    generalize x6.setCell ⟨w.heap.size + 2, 0, none⟩ (.bool true) = W6 at *
    have hc7 := cell_kept hbx.cell (grownBy_putObj' W6 E (.deferred none)) (fun r e => by cases e; exact ⟨_, hx1', rfl⟩)
    have hb7 : Below w.heap.size w (W6.putObj E (.deferred none)) := hbl.trans (belowK_b (w := w) (Nat.le_refl _) W6 E _ _ (by have h1 := HE.out; omega) hx1' rfl rfl)
    refine ⟨by simp, .inl ⟨_, _, rfl, run_takeDeferred hx1', ?_⟩⟩
    refine ⟨.bool true, ?_, rfl, hb7⟩
    simp [results, Try.results33, go_sem, hc7]
theorem same_any (M : MacV) (T U : Tr) (w : World) (hT : TreeAt w T) (hU : TreeAt w U) (hsh : T.sh = U.sh) (hasc : Asc T.sh.kv) (hcnt : T.cnt ≤ 1000000) :
    Calls Try.prog 33 #[macV M T.ptr, macV M U.ptr] w fun e w' => e = .returned (.bool true) ∧ Below w.heap.size w w' :=
  callsIn_wide.1 (same_in M T U w hT hU hsh hasc hcnt 3 (Nat.le_refl _))
end Go.Proofs.Ytkngadbeflepoaa
