/- Machines: the law's same, of any two. Condition: few enough keys. -/
import Derived.Test.YtkngadbeflepoaaMMachineBack28
namespace Go.Proofs.Ytkngadbeflepoaa
open Go.RowKit Go.Shelf
attribute [local go_sem] Oper.semAt_some

/-- Are two clients' last commands the same? -/
def lastE (l m : LastV) : Bool := decide (l.seq.toNat = m.seq.toNat) && decide (l.code = m.code) && decide (l.text.toList = m.text.toList)
theorem lastE_iff {l m : LastV} : lastE l m = true ↔ l = m := by
  unfold lastE
  simp only [Bool.and_eq_true, decide_eq_true_eq]
  constructor
  · rintro ⟨⟨h1, h2⟩, h3⟩
    obtain ⟨a, b, c⟩ := l
    obtain ⟨d, e, f⟩ := m
    simp only at h1 h2 h3
    have e1 := BitVec.eq_of_toNat_eq h1
    have e3 : c = f := by
      rw [ByteArray.toList_eq, ByteArray.toList_eq] at h3
      cases c; cases f
      simpa using h3
    subst e1 h2 e3
    rfl
  · rintro rfl
    exact ⟨⟨rfl, rfl⟩, rfl⟩
def tabE (t u : TabV) : Bool := lastE t.a u.a && lastE t.b u.b && lastE t.c u.c && lastE t.d u.d
theorem tabE_iff {t u : TabV} : tabE t u = true ↔ t = u := by
  unfold tabE
  simp only [Bool.and_eq_true, lastE_iff]
  constructor
  · rintro ⟨⟨⟨h1, h2⟩, h3⟩, h4⟩
    cases t; cases u
    simp only at h1 h2 h3 h4
    subst h1 h2 h3 h4
    rfl
  · rintro rfl
    exact ⟨⟨⟨rfl, rfl⟩, rfl⟩, rfl⟩
theorem last_eql2 (l m : LastV) (d : Nat) (w : World) : (Op.equalIn (d + 3) 63 (.agg (lastCells l).toArray) (.agg (lastCells m).toArray)).run Try.prog w = .ok (lastE l m) w := by
  unfold lastCells lastE
  have i1 : ((l.seq.toNat : Int) = (m.seq.toNat : Int)) = (l.seq.toNat = m.seq.toNat) := by apply propext; omega
  have i2 : ((l.code : Int) = (m.code : Int)) = (l.code = m.code) := by apply propext; omega
  go_simp
  by_cases h1 : l.seq.toNat = m.seq.toNat <;> by_cases h2 : l.code = m.code <;> by_cases h3 : l.text.toList = m.text.toList <;> simp [h1, h2, h3]
theorem tab_eql2 (t u : TabV) (w : World) : (Op.equalIn 10000 65 (.agg (tabCells t).toArray) (.agg (tabCells u).toArray)).run Try.prog w = .ok (tabE t u) w := by
  obtain ⟨i, hi, hz⟩ : ∃ i, Try.prog.info? 63 = some i ∧ i.size = 3 := by
    have h := infoLast
    cases hc : Try.prog.info? 63 with
    | none => rw [hc] at h; cases h
    | some i => rw [hc] at h; exact ⟨i, rfl, by simpa using h⟩
  rw [run_equalIn_array w 9999 _ _ Try.underlying65 hi]
  rw [show Try.prog.cellsOf 63 = 3 by kernel_rfl, show List.range 4 = [0, 1, 2, 3] from rfl]
  have fa := last_eql2 t.a u.a 9996 w
  have fb := last_eql2 t.b u.b 9996 w
  have fc := last_eql2 t.c u.c 9996 w
  have fd := last_eql2 t.d u.d 9996 w
  have pt : ∀ (v : TabV) (j : Nat) (l : LastV), List.take 3 (List.drop (j * 3) (tabCells v)) = lastCells l → (part 63 (tabCells v).toArray (j * 3)).run Try.prog w = .ok (.agg (lastCells l).toArray) w := fun v j l h => by
    simp [part, Sem.run_bind, typeInfo, sizeOf, hi, hz, h]
  have p0 := pt t 0 t.a rfl
  have p1 := pt t 1 t.b rfl
  have p2 := pt t 2 t.c rfl
  have p3 := pt t 3 t.d rfl
  have q0 := pt u 0 u.a rfl
  have q1 := pt u 1 u.b rfl
  have q2 := pt u 2 u.c rfl
  have q3 := pt u 3 u.d rfl
  unfold tabE
  generalize lastE t.a u.a = b1 at *
  generalize lastE t.b u.b = b2 at *
  generalize lastE t.c u.c = b3 at *
  generalize lastE t.d u.d = b4 at *
  simp only [Op.eqItems, Sem.run_bind, p0, q0, fa, Result.andThen_ok]
  cases b1 <;> cases b2 <;> cases b3 <;> cases b4 <;> simp [Sem.run_bind, p1, p2, p3, q1, q2, q3, fb, fc, fd, Sem.run_pure]
/-- Are two machines the same? -/
def macSame (M N : MacV) : Bool := (diffL M.sh.kv N.sh.kv).isEmpty && decide (M.all = N.all) && decide (M.mem = N.mem) && tabE M.tab N.tab
structure Same2I (w0 : World) (M N : MacV) (P Q : Option Addr) (w : World) : Prop where
  a : MacAt w w0.heap.size M P
  b : MacAt w (w0.heap.size + 1) N Q
  r : BoxAt w (w0.heap.size + 2) (.bool false) 4
  bel : Below w0.heap.size w0 w
theorem Same2I.below {w0 w w' : World} {M N : MacV} {P Q : Option Addr} (h : Same2I w0 M N P Q w) (hb : Below w.heap.size w w') : Same2I w0 M N P Q w' := ⟨h.a.below hb, h.b.below hb, h.r.below hb, h.bel.trans (hb.mono h.bel.size)⟩
/-- What a round leaves that ends the call. -/
structure Same2R (w0 w : World) : Prop where
  r : BoxAt w (w0.heap.size + 2) (.bool false) 4
  bel : Below w0.heap.size w0 w
theorem Same2R.own {w0 W W' : World} {row : Option Nat} {B : Nat} (h : Same2R w0 W) (hg : W.grownBy W' row) (hr : ∀ r, row = some r → B ≤ r ∧ ∃ o : Obj, W.heap[r]? = some o ∧ o.isCells = false) (hB : w0.heap.size ≤ B) : Same2R w0 W' :=
  ⟨BoxAt.own (f := fun _ : Unit => .bool false) () W W' row h.r hg hr, below_own hB h.bel hg hr⟩
theorem same2_start (w : World) (M N : MacV) (P Q : Option Addr) : Same2I w M N P Q (((w.alloc (.cells (macCells M P).toArray 69)).alloc (.cells (macCells N Q).toArray 69)).alloc (.cells #[.bool false] 4)) := by
  have b1 := (Below.refl w.heap.size w).alloc (Nat.le_refl _) (.cells (macCells M P).toArray 69)
  have b2 := b1.alloc b1.size (.cells (macCells N Q).toArray 69)
  have s1 : (w.alloc (.cells (macCells M P).toArray 69)).heap.size = w.heap.size + 1 := by simp
  have s2 : ((w.alloc (.cells (macCells M P).toArray 69)).alloc (.cells (macCells N Q).toArray 69)).heap.size = w.heap.size + 2 := by simp
  have v1 : MacAt (w.alloc (.cells (macCells M P).toArray 69)) w.heap.size M P := heap_alloc_new _ _
  have v2 : MacAt ((w.alloc (.cells (macCells M P).toArray 69)).alloc (.cells (macCells N Q).toArray 69)) _ N Q := heap_alloc_new _ _
  have v3 := BoxAt.new ((w.alloc (.cells (macCells M P).toArray 69)).alloc (.cells (macCells N Q).toArray 69)) (.bool false) 4
  rw [s1] at v2
  rw [s2] at v3
  have a1 : ∀ (u : World) (o : Obj), Below u.heap.size u (u.alloc o) := fun u o => (Below.refl _ _).alloc (Nat.le_refl _) _
  exact ⟨(v1.below (a1 _ _)).below (a1 _ _), v2.below (a1 _ _), v3, b2.alloc b2.size _⟩

set_option maxRecDepth 100000 in
set_option maxHeartbeats 16000000 in
theorem same2_in (M N : MacV) (T U : Tr) (w : World) (hT : TreeAt w T) (hU : TreeAt w U) (hsM : T.sh = M.sh) (hsN : U.sh = N.sh) (hasc : Asc T.sh.kv) (hascU : Asc U.sh.kv) (hcnt : T.cnt ≤ 1000000) (hcU : U.cnt ≤ 1000000) (mm : Nat) (hmm : 3 ≤ mm) :
    CallsIn Fence.wide mm Try.prog 33 #[macV M T.ptr, macV N U.ptr] w fun e w' => e = .returned (.bool (macSame M N)) ∧ Below w.heap.size w w' := by
  obtain ⟨D, hD⟩ : ∃ D, diffL T.kvs U.kvs = D := ⟨_, rfl⟩
  obtain ⟨rb, hrb⟩ : ∃ b, macSame M N = b := ⟨_, rfl⟩
  have hrb0 := hrb
  unfold macSame at hrb0
  rw [show diffL M.sh.kv N.sh.kv = D by rw [← hsM, ← hsN]; exact hD] at hrb0
  rw [hrb]
  clear hrb
  have HD := Lib.hid hD; clear hD hsM hsN
  have Hrb := Lib.hid hrb0; clear hrb0
  have HT := Lib.hid hT; clear hT
  have HU := Lib.hid hU; clear hU
  obtain ⟨P, hP⟩ : ∃ P, T.ptr = P := ⟨_, rfl⟩
  obtain ⟨Q, hQ⟩ : ∃ P, U.ptr = P := ⟨_, rfl⟩
  have hS := same2_start w M N P Q
  rw [hP, hQ]
  have HP := Lib.hid hP; clear hP
  have HQ := Lib.hid hQ; clear hQ
  unfold macV
  refine callsIn_of_wp_marks Try.func33 rfl trivial ?_ rfl
  simp only [Try.ntmps33, List.size_toArray, List.length_cons, List.length_nil, Nat.reduceAdd, Nat.reduceSub, Array.replicate_succ, Array.replicate_zero, List.push_toArray, List.append_toArray, List.nil_append, List.cons_append]
  refine wpIn_wide.2 ?_
  go_upto_region 1 with fail
  rw [show w.heap.size + 1 + 1 = w.heap.size + 2 by omega]
  change Code.wp _ _ _ _ (((w.alloc (.cells (macCells M P).toArray 69)).alloc (.cells (macCells N Q).toArray 69)).alloc (.cells #[.bool false] 4))
  generalize ((w.alloc (.cells (macCells M P).toArray 69)).alloc (.cells (macCells N Q).toArray 69)).alloc (.cells #[.bool false] 4) = w1 at *
  have HS := Lib.hid hS; clear hS
  have HTa := Lib.hid (HT.out.below HS.out.bel)
  have HUa := Lib.hid (HU.out.below HS.out.bel)
  refine (wpIn_wide (n := 1)).1 ?_
  refine RegK.wpIn_region_calm (F := Fence.wide) (KeptW w1) [(0, 0), (2, 0), (1, 1), (3, 1), (4, 1), (5, 0)] (by kernel_rfl) (by kernel_rfl) (by kernel_rfl) (KeptW.drew w1) ?_
  dsimp only [RegK.pick, List.getElem?_cons_zero, List.getElem?_cons_succ]
  change RegK.Can _ _ _ _ _ _ _ _ w1.drew
  have hkd := KeptW.drew w1
  refine RegK.can_reads ?_
  intro K hK
  go_simp
  refine ⟨.agg (macCells M P).toArray, fun y hy => ?_, hK _ ?_⟩
  · rw [mac_eta M P]
    obtain ⟨⟨m0, m1, m14⟩, ⟨m2, m3, m4⟩, ⟨m5, m6, m7⟩, ⟨m8, m9, m10⟩, ⟨m11, m12, m13⟩⟩ := (HS.out.a.below (KeptW.bel hy)).cells
    go_simp
  clear hK K
  refine RegK.can_reads ?_
  intro K hK
  go_simp
  refine ⟨.agg (macCells N Q).toArray, fun y hy => ?_, hK _ ?_⟩
  · rw [mac_eta N Q]
    obtain ⟨⟨m0, m1, m14⟩, ⟨m2, m3, m4⟩, ⟨m5, m6, m7⟩, ⟨m8, m9, m10⟩, ⟨m11, m12, m13⟩⟩ := (HS.out.b.below (KeptW.bel hy)).cells
    go_simp
  clear hK K
  refine RegK.can_narrows (fun _ => trivial) ?_
  intro K K0 hK hK0
  go_simp
  refine ⟨trivial, ?_⟩
  refine (callsIn_wide.2 (show Calls Try.prog 46 #[.agg (macCells M P).toArray] w1.drew _ from mtree_any M P w1.drew)).mono ?_
  rintro e xa ⟨rfl, hb⟩
  have hxa : KeptW w1 xa := KeptW.mono hkd hb
  refine hK (KeptW w1) _ _ (fun y h => h) hxa ?_
  clear hK K K0 hK0 hb
  refine RegK.can_narrows (fun _ => trivial) ?_
  intro K K0 hK hK0
  go_simp
  refine ⟨trivial, ?_⟩
  refine (callsIn_wide.2 (show Calls Try.prog 46 #[.agg (macCells N Q).toArray] xa _ from mtree_any N Q xa)).mono ?_
  rintro e ya ⟨rfl, hb⟩
  have hya : KeptW w1 ya := KeptW.mono hxa hb
  refine hK (KeptW w1) _ _ (fun y h => h) hya ?_
  clear hK K K0 hK0 hb
  refine RegK.can_narrows (fun _ => trivial) ?_
  intro K K0 hK hK0
  go_simp
  refine ⟨trivial, ?_⟩
  refine (diff_in _ P Q ya).mono ?_
  rintro e za ⟨rfl, hz⟩
  have hbz : Below ya.heap.size ya za := by rw [hz]; exact ((Below.refl _ _).alloc (Nat.le_refl _) _).alloc (by simp) _
  have hsz : za.heap.size = ya.heap.size + 2 := by rw [hz]; simp
  have hba : BoxAt za ya.heap.size (.pointer P) 25 := by
    rw [hz]
    exact (BoxAt.new ya (.pointer P) 25).below ((Below.refl _ _).alloc (Nat.le_refl _) _)
  have hbb : BoxAt za (ya.heap.size + 1) (.pointer Q) 25 := by
    have h := BoxAt.new (ya.alloc (.cells #[.pointer P] 25)) (.pointer Q) 25
    rw [World.size_alloc] at h
    rw [hz]
    exact h
  have hxz : KeptW w1 za := KeptW.mono hya hbz
  refine hK (KeptW w1) _ _ (fun y h => h) hxz ?_
  clear hK K K0 hK0 hz
  iterate 1 (refine RegK.can_reads ?_; intro K hK; go_simp; (first | (refine ⟨_, fun _ _ => rfl, hK _ ?_⟩) | (refine hK _ ?_)); clear hK K)
  refine RegK.can_calm ?_
  have hseq := dseq_some
  go_wp2_with fail
  clear hseq
  have hloA : T.Lo ya.heap.size := (HTa.out.below (KeptW.bel hya)).lo
  have hloB : U.Lo ya.heap.size := (HUa.out.below (KeptW.bel hya)).lo
  have hstops := diff_stops (mm - 1) ya.heap.size (ya.heap.size + 1) ya.heap.size (ya.heap.size + 2) T U za (by omega) (by omega) (by omega) (by omega) (by rw [HP.out]; exact hba.cell) (by rw [HQ.out]; exact hbb.cell) (HTa.out.below (KeptW.bel hxz)) (HUa.out.below (KeptW.bel hxz)) hloA.outOf hloB.outOf hasc hascU (by omega)
  rw [HD.out] at hstops
  have Hstops := Lib.hid hstops; clear hstops
  have Hsz := Lib.hid hsz; clear hsz
  have Hxz := Lib.hid (KeptW.bel hxz); clear hxz
  clear hloA hloB hba hbb hbz hxa hya hkd
  refine (wpIn_wide (n := mm)).1 ?_
  refine Range.wpIn_range (F := Fence.wide) rfl (by omega) (gf := 113) (lb := #[.pointer (some ⟨ya.heap.size, 0, none⟩), .pointer (some ⟨ya.heap.size + 1, 0, none⟩)]) rfl trivial (enters_of Try.func113 (by kernel_rfl) rfl)
    Hstops.out (fun h k => h.trans k) (keepC_b (by have := Hsz.out; omega)) (Below.refl _ _) (fun _ => rfl)
    (fun s W => s = [] ∧ Below za.heap.size za W) (fun c _ W => c = .ret ∧ D ≠ [] ∧ Same2R w W) (fun s W W' row hs hg hr => ⟨hs.1, below_own (Nat.le_refl _) hs.2 hg hr⟩) (fun c s W W' row hs hg hr => ⟨hs.1, hs.2.1, hs.2.2.own hg hr (Nat.le_trans (Nat.le_trans HS.out.bel.size Hxz.out.size) (Nat.le_refl _))⟩) ⟨rfl, Below.refl _ _⟩ ?round ?done ?stop
  case round =>
    rintro l pre x V2 ⟨rfl, hi⟩ hlen
    have hDne : D ≠ [] := by
      rintro rfl
      simp at hlen
    clear Hstops hlen
    obtain ⟨xk, xo, xn, xa, xb⟩ := x
    have HDne := Lib.hid hDne; clear hDne
    have Hi := Lib.hid hi; clear hi
    gi_wp2
    refine ⟨KeepsFrom.refl _ _, KeepC.refl _ _ _, fun W2 hT => ?_⟩
    have hi2 := Hi.out.trans (turned_below (Nat.le_refl _) hT)
    have hl7 := HS.out.below (Hxz.out.trans (hi2.mono Hxz.out.size))
    have HL := Lib.hid hl7; clear hl7 hi2 hT Hi
    have z0 := HL.out.r.cell
    have z1 := HL.out.r.frozen
    gi_wp2
    exact ⟨keepsFrom_set (KeepsFrom.refl _ _), rfl, HDne.out, HL.out.r.set, below_set HL.out.bel (by omega)⟩
  case stop =>
    rintro E c pre V2 hE hpre ⟨rfl, hDne, hR⟩ hk
    have hrb : rb = false := by
      rw [← Hrb.out]
      cases D with
      | nil => exact absurd rfl hDne
      | cons a l => rfl
    subst hrb
    have hlE : w.heap.size + 2 < E := Nat.lt_of_lt_of_le HS.out.r.lt (Nat.le_trans Hxz.out.size hE)
    have HR := Lib.hid hR; clear hR
    have HkE := Lib.hid (And.intro hk hlE); clear hk hlE hE hpre hDne Hstops
    refine wpIn_wide.2 ?_
    go_wp2_with fail
    have hc7 := cell_kept HR.out.r.cell (grownBy_putObj' V2 E (.deferred none)) (fun r e => by cases e; exact ⟨_, HkE.out.1, rfl⟩)
    have hb7 : Below w.heap.size w (V2.putObj E (.deferred none)) := HR.out.bel.trans (belowK_b (w := w) (Nat.le_refl _) V2 E _ _ (by have h1 := HkE.out.2; omega) HkE.out.1 rfl rfl)
    refine ⟨by simp, .inl ⟨_, _, rfl, run_takeDeferred HkE.out.1, ?_⟩⟩
    refine ⟨.bool false, ?_, rfl, hb7⟩
    simp [results, Try.results33, go_sem, hc7]
  case done =>
    rintro E ys W hE hS ⟨rfl, hI⟩ hK
    have hD0 : D = [] := by simpa using hS.symm
    subst hD0
    clear Hstops
    have HSw := Lib.hid (HS.out.below (Hxz.out.trans (hI.mono Hxz.out.size)))
    have HK := Lib.hid hK; clear hK
    have HE := Lib.hid (show w.heap.size + 2 < E from Nat.lt_of_lt_of_le HS.out.r.lt (Nat.le_trans Hxz.out.size hE))
    clear HS HTa HUa hI hE Hxz Hsz hS
    have e1 : ((M.all : Int) == (N.all : Int)) = decide (M.all = N.all) := by
      by_cases h : M.all = N.all
      · simp [h]
      · simp [h]; omega
    have e2 : ((M.mem : Int) == (N.mem : Int)) = decide (M.mem = N.mem) := by
      by_cases h : M.mem = N.mem
      · simp [h]
      · simp [h]; omega
    have Hte := Lib.hid (fun y : World => tab_eql2 M.tab N.tab y)
    generalize decide (M.all = N.all) = b1 at *
    generalize decide (M.mem = N.mem) = b2 at *
    generalize tabE M.tab N.tab = b3 at *
    simp only [List.isEmpty_nil, Bool.true_and] at Hrb
    go_upto_region 6 with fail
    cases b1 with
    | false =>
      refine (wpIn_wide (n := 1)).1 ?_
      refine RegK.wpIn_region_calm (F := Fence.wide) (KeptW W) [(0, 0), (2, 0), (1, 1), (3, 1), (4, 0), (5, 0), (6, 0), (8, 0), (7, 1), (9, 1), (10, 0), (11, 0), (12, 0), (13, 0), (15, 0), (14, 1), (16, 1), (17, 0), (18, 0), (19, 3)] (by kernel_rfl) (by kernel_rfl) (by kernel_rfl) (KeptW.drew W) ?_
      dsimp only [RegK.pick, List.getElem?_cons_zero, List.getElem?_cons_succ]
      change RegK.Can _ _ _ _ _ _ _ _ W.drew
      have hx0 := KeptW.drew W
      obtain ⟨x0, hx0e⟩ : ∃ x, W.drew = x := ⟨_, rfl⟩
      rw [hx0e] at hx0 ⊢
      clear hx0e
      refine RegK.can_reads ?_
      intro K hK
      go_simp
      refine ⟨.agg (macCells M P).toArray, fun y hy => ?_, hK _ ?_⟩
      · rw [mac_eta M P]
        obtain ⟨⟨m0, m1, m14⟩, ⟨m2, m3, m4⟩, ⟨m5, m6, m7⟩, ⟨m8, m9, m10⟩, ⟨m11, m12, m13⟩⟩ := (HSw.out.a.below (KeptW.bel hy)).cells
        go_simp
      clear hK K
      refine RegK.can_reads ?_
      intro K hK
      go_simp
      refine ⟨.agg (macCells N Q).toArray, fun y hy => ?_, hK _ ?_⟩
      · rw [mac_eta N Q]
        obtain ⟨⟨m0, m1, m14⟩, ⟨m2, m3, m4⟩, ⟨m5, m6, m7⟩, ⟨m8, m9, m10⟩, ⟨m11, m12, m13⟩⟩ := (HSw.out.b.below (KeptW.bel hy)).cells
        go_simp
      clear hK K
      refine RegK.can_narrows (fun _ => trivial) ?_
      intro K K0 hK hK0
      go_simp
      refine ⟨trivial, ?_⟩
      refine (callsIn_wide.2 (show Calls Try.prog 43 #[.agg (macCells M P).toArray] x0 _ from mall_any M P x0)).mono ?_
      rintro e x1 ⟨rfl, hb⟩
      have hx1 : KeptW W x1 := KeptW.mono hx0 hb
      refine hK (KeptW W) _ _ (fun y h => h) hx1 ?_
      clear hK K K0 hK0 hb
      refine RegK.can_narrows (fun _ => trivial) ?_
      intro K K0 hK hK0
      go_simp
      refine ⟨trivial, ?_⟩
      refine (callsIn_wide.2 (show Calls Try.prog 43 #[.agg (macCells N Q).toArray] x1 _ from mall_any N Q x1)).mono ?_
      rintro e x2 ⟨rfl, hb⟩
      have hx2 : KeptW W x2 := KeptW.mono hx1 hb
      refine hK (KeptW W) _ _ (fun y h => h) hx2 ?_
      clear hK K K0 hK0 hb
      (refine RegK.can_reads ?_; intro K hK; go_simp; (first | (refine ⟨_, fun _ _ => rfl, hK _ ?_⟩) | (refine hK _ ?_)); clear hK K)
      (refine RegK.can_reads ?_; intro K hK; go_simp; (first | (refine ⟨_, fun _ _ => rfl, hK _ ?_⟩) | (refine hK _ ?_)); clear hK K)
      (refine RegK.can_reads ?_; intro K hK; go_simp; refine hK _ ?_; clear hK K)
      (refine RegK.can_reads ?_; intro K hK; go_simp; refine hK _ ?_; clear hK K)
      (refine RegK.can_narrows (fun _ => trivial) ?_; intro K K0 hK hK0; go_simp; refine hK0 _ ?_; clear hK K hK0 K0)
      (refine RegK.can_narrows (fun _ => trivial) ?_; intro K K0 hK hK0; go_simp; refine hK0 _ ?_; clear hK K hK0 K0)
      (refine RegK.can_reads ?_; intro K hK; go_simp; refine hK _ ?_; clear hK K)
      (refine RegK.can_reads ?_; intro K hK; go_simp; (first | (refine ⟨_, fun _ _ => rfl, hK _ ?_⟩) | (refine hK _ ?_)); clear hK K)
      (refine RegK.can_reads ?_; intro K hK; go_simp; (first | (refine ⟨_, fun _ _ => rfl, hK _ ?_⟩) | (refine hK _ ?_)); clear hK K)
      (refine RegK.can_reads ?_; intro K hK; go_simp; refine hK _ ?_; clear hK K)
      (refine RegK.can_reads ?_; intro K hK; go_simp; refine hK _ ?_; clear hK K)
      (refine RegK.can_narrows (fun _ => trivial) ?_; intro K K0 hK hK0; go_simp; refine hK0 _ ?_; clear hK K hK0 K0)
      (refine RegK.can_narrows (fun _ => trivial) ?_; intro K K0 hK hK0; go_simp; refine hK0 _ ?_; clear hK K hK0 K0)
      (refine RegK.can_reads ?_; intro K hK; go_simp; refine hK _ ?_; clear hK K)
      (refine RegK.can_reads ?_; intro K hK; go_simp; (first | (refine ⟨_, fun _ _ => rfl, hK _ ?_⟩) | (refine hK _ ?_)); clear hK K)
      have z0 := (HSw.out.below (KeptW.bel hx2)).r.cell
      have z1 := (HSw.out.below (KeptW.bel hx2)).r.frozen
      refine RegK.can_frees (fun _ => trivial) ?_
      intro K K0 hK hK0
      go_simp
      refine hK (fun _ => True) _ _ trivial ?_
      clear hK K hK0 K0
      refine RegK.can_calm ?_
      clear z0 z1
      have l7 := HSw.out.below (KeptW.bel hx2)
      have hx1' : (x2.setCell ⟨w.heap.size + 2, 0, none⟩ (.bool false)).heap[E]? = some (.deferred (some [])) := (Below.heap_setCell _ _ _ _ (by show E ≠ w.heap.size + 2; have := HE.out; omega)).trans (((KeptW.bel hx2).block E (Array.getElem?_eq_some_iff.1 HK.out).1).trans HK.out)
      have hbx : BoxAt (x2.setCell ⟨w.heap.size + 2, 0, none⟩ (.bool false)) (w.heap.size + 2) (.bool false) 4 := l7.r.set
      have hbl : Below w.heap.size w (x2.setCell ⟨w.heap.size + 2, 0, none⟩ (.bool false)) := below_set l7.bel (by omega)
      go_wp2_with fail
      generalize x2.setCell ⟨w.heap.size + 2, 0, none⟩ (.bool false) = W6 at *
      have hc7 := cell_kept hbx.cell (grownBy_putObj' W6 E (.deferred none)) (fun r e => by cases e; exact ⟨_, hx1', rfl⟩)
      have hb7 : Below w.heap.size w (W6.putObj E (.deferred none)) := hbl.trans (belowK_b (w := w) (Nat.le_refl _) W6 E _ _ (by have h1 := HE.out; omega) hx1' rfl rfl)
      have hrb := Hrb.out
      simp only [Bool.false_and] at hrb
      subst hrb
      refine ⟨by simp, .inl ⟨_, _, rfl, run_takeDeferred hx1', ?_⟩⟩
      refine ⟨.bool false, ?_, rfl, hb7⟩
      simp [results, Try.results33, go_sem, hc7]
    | true =>
    cases b2 with
    | false =>
      refine (wpIn_wide (n := 1)).1 ?_
      refine RegK.wpIn_region_calm (F := Fence.wide) (KeptW W) [(0, 0), (2, 0), (1, 1), (3, 1), (4, 0), (5, 0), (6, 0), (8, 0), (7, 1), (9, 1), (10, 0), (11, 0), (12, 0), (13, 0), (15, 0), (14, 1), (16, 1), (17, 0), (18, 0), (19, 3)] (by kernel_rfl) (by kernel_rfl) (by kernel_rfl) (KeptW.drew W) ?_
      dsimp only [RegK.pick, List.getElem?_cons_zero, List.getElem?_cons_succ]
      change RegK.Can _ _ _ _ _ _ _ _ W.drew
      have hx0 := KeptW.drew W
      obtain ⟨x0, hx0e⟩ : ∃ x, W.drew = x := ⟨_, rfl⟩
      rw [hx0e] at hx0 ⊢
      clear hx0e
      refine RegK.can_reads ?_
      intro K hK
      go_simp
      refine ⟨.agg (macCells M P).toArray, fun y hy => ?_, hK _ ?_⟩
      · rw [mac_eta M P]
        obtain ⟨⟨m0, m1, m14⟩, ⟨m2, m3, m4⟩, ⟨m5, m6, m7⟩, ⟨m8, m9, m10⟩, ⟨m11, m12, m13⟩⟩ := (HSw.out.a.below (KeptW.bel hy)).cells
        go_simp
      clear hK K
      refine RegK.can_reads ?_
      intro K hK
      go_simp
      refine ⟨.agg (macCells N Q).toArray, fun y hy => ?_, hK _ ?_⟩
      · rw [mac_eta N Q]
        obtain ⟨⟨m0, m1, m14⟩, ⟨m2, m3, m4⟩, ⟨m5, m6, m7⟩, ⟨m8, m9, m10⟩, ⟨m11, m12, m13⟩⟩ := (HSw.out.b.below (KeptW.bel hy)).cells
        go_simp
      clear hK K
      refine RegK.can_narrows (fun _ => trivial) ?_
      intro K K0 hK hK0
      go_simp
      refine ⟨trivial, ?_⟩
      refine (callsIn_wide.2 (show Calls Try.prog 43 #[.agg (macCells M P).toArray] x0 _ from mall_any M P x0)).mono ?_
      rintro e x1 ⟨rfl, hb⟩
      have hx1 : KeptW W x1 := KeptW.mono hx0 hb
      refine hK (KeptW W) _ _ (fun y h => h) hx1 ?_
      clear hK K K0 hK0 hb
      refine RegK.can_narrows (fun _ => trivial) ?_
      intro K K0 hK hK0
      go_simp
      refine ⟨trivial, ?_⟩
      refine (callsIn_wide.2 (show Calls Try.prog 43 #[.agg (macCells N Q).toArray] x1 _ from mall_any N Q x1)).mono ?_
      rintro e x2 ⟨rfl, hb⟩
      have hx2 : KeptW W x2 := KeptW.mono hx1 hb
      refine hK (KeptW W) _ _ (fun y h => h) hx2 ?_
      clear hK K K0 hK0 hb
      (refine RegK.can_reads ?_; intro K hK; go_simp; (first | (refine ⟨_, fun _ _ => rfl, hK _ ?_⟩) | (refine hK _ ?_)); clear hK K)
      (refine RegK.can_reads ?_; intro K hK; go_simp; (first | (refine ⟨_, fun _ _ => rfl, hK _ ?_⟩) | (refine hK _ ?_)); clear hK K)
      refine RegK.can_reads ?_
      intro K hK
      go_simp
      refine ⟨.agg (macCells M P).toArray, fun y hy => ?_, hK _ ?_⟩
      · rw [mac_eta M P]
        obtain ⟨⟨m0, m1, m14⟩, ⟨m2, m3, m4⟩, ⟨m5, m6, m7⟩, ⟨m8, m9, m10⟩, ⟨m11, m12, m13⟩⟩ := (HSw.out.a.below (KeptW.bel hy)).cells
        go_simp
      clear hK K
      refine RegK.can_reads ?_
      intro K hK
      go_simp
      refine ⟨.agg (macCells N Q).toArray, fun y hy => ?_, hK _ ?_⟩
      · rw [mac_eta N Q]
        obtain ⟨⟨m0, m1, m14⟩, ⟨m2, m3, m4⟩, ⟨m5, m6, m7⟩, ⟨m8, m9, m10⟩, ⟨m11, m12, m13⟩⟩ := (HSw.out.b.below (KeptW.bel hy)).cells
        go_simp
      clear hK K
      refine RegK.can_narrows (fun _ => trivial) ?_
      intro K K0 hK hK0
      go_simp
      refine ⟨trivial, ?_⟩
      refine (callsIn_wide.2 (show Calls Try.prog 44 #[.agg (macCells M P).toArray] x2 _ from mmem_any M P x2)).mono ?_
      rintro e x3 ⟨rfl, hb⟩
      have hx3 : KeptW W x3 := KeptW.mono hx2 hb
      refine hK (KeptW W) _ _ (fun y h => h) hx3 ?_
      clear hK K K0 hK0 hb
      refine RegK.can_narrows (fun _ => trivial) ?_
      intro K K0 hK hK0
      go_simp
      refine ⟨trivial, ?_⟩
      refine (callsIn_wide.2 (show Calls Try.prog 44 #[.agg (macCells N Q).toArray] x3 _ from mmem_any N Q x3)).mono ?_
      rintro e x4 ⟨rfl, hb⟩
      have hx4 : KeptW W x4 := KeptW.mono hx3 hb
      refine hK (KeptW W) _ _ (fun y h => h) hx4 ?_
      clear hK K K0 hK0 hb
      (refine RegK.can_reads ?_; intro K hK; go_simp; (first | (refine ⟨_, fun _ _ => rfl, hK _ ?_⟩) | (refine hK _ ?_)); clear hK K)
      (refine RegK.can_reads ?_; intro K hK; go_simp; (first | (refine ⟨_, fun _ _ => rfl, hK _ ?_⟩) | (refine hK _ ?_)); clear hK K)
      (refine RegK.can_reads ?_; intro K hK; go_simp; (first | (refine ⟨_, fun _ _ => rfl, hK _ ?_⟩) | (refine hK _ ?_)); clear hK K)
      (refine RegK.can_reads ?_; intro K hK; go_simp; refine hK _ ?_; clear hK K)
      (refine RegK.can_reads ?_; intro K hK; go_simp; refine hK _ ?_; clear hK K)
      (refine RegK.can_narrows (fun _ => trivial) ?_; intro K K0 hK hK0; go_simp; refine hK0 _ ?_; clear hK K hK0 K0)
      (refine RegK.can_narrows (fun _ => trivial) ?_; intro K K0 hK hK0; go_simp; refine hK0 _ ?_; clear hK K hK0 K0)
      (refine RegK.can_reads ?_; intro K hK; go_simp; refine hK _ ?_; clear hK K)
      (refine RegK.can_reads ?_; intro K hK; go_simp; (first | (refine ⟨_, fun _ _ => rfl, hK _ ?_⟩) | (refine hK _ ?_)); clear hK K)
      have z0 := (HSw.out.below (KeptW.bel hx4)).r.cell
      have z1 := (HSw.out.below (KeptW.bel hx4)).r.frozen
      refine RegK.can_frees (fun _ => trivial) ?_
      intro K K0 hK hK0
      go_simp
      refine hK (fun _ => True) _ _ trivial ?_
      clear hK K hK0 K0
      refine RegK.can_calm ?_
      clear z0 z1
      have l7 := HSw.out.below (KeptW.bel hx4)
      have hx1' : (x4.setCell ⟨w.heap.size + 2, 0, none⟩ (.bool false)).heap[E]? = some (.deferred (some [])) := (Below.heap_setCell _ _ _ _ (by show E ≠ w.heap.size + 2; have := HE.out; omega)).trans (((KeptW.bel hx4).block E (Array.getElem?_eq_some_iff.1 HK.out).1).trans HK.out)
      have hbx : BoxAt (x4.setCell ⟨w.heap.size + 2, 0, none⟩ (.bool false)) (w.heap.size + 2) (.bool false) 4 := l7.r.set
      have hbl : Below w.heap.size w (x4.setCell ⟨w.heap.size + 2, 0, none⟩ (.bool false)) := below_set l7.bel (by omega)
      go_wp2_with fail
      generalize x4.setCell ⟨w.heap.size + 2, 0, none⟩ (.bool false) = W6 at *
      have hc7 := cell_kept hbx.cell (grownBy_putObj' W6 E (.deferred none)) (fun r e => by cases e; exact ⟨_, hx1', rfl⟩)
      have hb7 : Below w.heap.size w (W6.putObj E (.deferred none)) := hbl.trans (belowK_b (w := w) (Nat.le_refl _) W6 E _ _ (by have h1 := HE.out; omega) hx1' rfl rfl)
      have hrb := Hrb.out
      simp only [Bool.true_and, Bool.false_and] at hrb
      subst hrb
      refine ⟨by simp, .inl ⟨_, _, rfl, run_takeDeferred hx1', ?_⟩⟩
      refine ⟨.bool false, ?_, rfl, hb7⟩
      simp [results, Try.results33, go_sem, hc7]
    | true =>
      refine (wpIn_wide (n := 1)).1 ?_
      refine RegK.wpIn_region_calm (F := Fence.wide) (KeptW W) [(0, 0), (2, 0), (1, 1), (3, 1), (4, 0), (5, 0), (6, 0), (8, 0), (7, 1), (9, 1), (10, 0), (11, 0), (12, 0), (13, 0), (15, 0), (14, 1), (16, 1), (17, 0), (18, 0), (19, 3)] (by kernel_rfl) (by kernel_rfl) (by kernel_rfl) (KeptW.drew W) ?_
      dsimp only [RegK.pick, List.getElem?_cons_zero, List.getElem?_cons_succ]
      change RegK.Can _ _ _ _ _ _ _ _ W.drew
      have hx0 := KeptW.drew W
      obtain ⟨x0, hx0e⟩ : ∃ x, W.drew = x := ⟨_, rfl⟩
      rw [hx0e] at hx0 ⊢
      clear hx0e
      refine RegK.can_reads ?_
      intro K hK
      go_simp
      refine ⟨.agg (macCells M P).toArray, fun y hy => ?_, hK _ ?_⟩
      · rw [mac_eta M P]
        obtain ⟨⟨m0, m1, m14⟩, ⟨m2, m3, m4⟩, ⟨m5, m6, m7⟩, ⟨m8, m9, m10⟩, ⟨m11, m12, m13⟩⟩ := (HSw.out.a.below (KeptW.bel hy)).cells
        go_simp
      clear hK K
      refine RegK.can_reads ?_
      intro K hK
      go_simp
      refine ⟨.agg (macCells N Q).toArray, fun y hy => ?_, hK _ ?_⟩
      · rw [mac_eta N Q]
        obtain ⟨⟨m0, m1, m14⟩, ⟨m2, m3, m4⟩, ⟨m5, m6, m7⟩, ⟨m8, m9, m10⟩, ⟨m11, m12, m13⟩⟩ := (HSw.out.b.below (KeptW.bel hy)).cells
        go_simp
      clear hK K
      refine RegK.can_narrows (fun _ => trivial) ?_
      intro K K0 hK hK0
      go_simp
      refine ⟨trivial, ?_⟩
      refine (callsIn_wide.2 (show Calls Try.prog 43 #[.agg (macCells M P).toArray] x0 _ from mall_any M P x0)).mono ?_
      rintro e x1 ⟨rfl, hb⟩
      have hx1 : KeptW W x1 := KeptW.mono hx0 hb
      refine hK (KeptW W) _ _ (fun y h => h) hx1 ?_
      clear hK K K0 hK0 hb
      refine RegK.can_narrows (fun _ => trivial) ?_
      intro K K0 hK hK0
      go_simp
      refine ⟨trivial, ?_⟩
      refine (callsIn_wide.2 (show Calls Try.prog 43 #[.agg (macCells N Q).toArray] x1 _ from mall_any N Q x1)).mono ?_
      rintro e x2 ⟨rfl, hb⟩
      have hx2 : KeptW W x2 := KeptW.mono hx1 hb
      refine hK (KeptW W) _ _ (fun y h => h) hx2 ?_
      clear hK K K0 hK0 hb
      (refine RegK.can_reads ?_; intro K hK; go_simp; (first | (refine ⟨_, fun _ _ => rfl, hK _ ?_⟩) | (refine hK _ ?_)); clear hK K)
      (refine RegK.can_reads ?_; intro K hK; go_simp; (first | (refine ⟨_, fun _ _ => rfl, hK _ ?_⟩) | (refine hK _ ?_)); clear hK K)
      refine RegK.can_reads ?_
      intro K hK
      go_simp
      refine ⟨.agg (macCells M P).toArray, fun y hy => ?_, hK _ ?_⟩
      · rw [mac_eta M P]
        obtain ⟨⟨m0, m1, m14⟩, ⟨m2, m3, m4⟩, ⟨m5, m6, m7⟩, ⟨m8, m9, m10⟩, ⟨m11, m12, m13⟩⟩ := (HSw.out.a.below (KeptW.bel hy)).cells
        go_simp
      clear hK K
      refine RegK.can_reads ?_
      intro K hK
      go_simp
      refine ⟨.agg (macCells N Q).toArray, fun y hy => ?_, hK _ ?_⟩
      · rw [mac_eta N Q]
        obtain ⟨⟨m0, m1, m14⟩, ⟨m2, m3, m4⟩, ⟨m5, m6, m7⟩, ⟨m8, m9, m10⟩, ⟨m11, m12, m13⟩⟩ := (HSw.out.b.below (KeptW.bel hy)).cells
        go_simp
      clear hK K
      refine RegK.can_narrows (fun _ => trivial) ?_
      intro K K0 hK hK0
      go_simp
      refine ⟨trivial, ?_⟩
      refine (callsIn_wide.2 (show Calls Try.prog 44 #[.agg (macCells M P).toArray] x2 _ from mmem_any M P x2)).mono ?_
      rintro e x3 ⟨rfl, hb⟩
      have hx3 : KeptW W x3 := KeptW.mono hx2 hb
      refine hK (KeptW W) _ _ (fun y h => h) hx3 ?_
      clear hK K K0 hK0 hb
      refine RegK.can_narrows (fun _ => trivial) ?_
      intro K K0 hK hK0
      go_simp
      refine ⟨trivial, ?_⟩
      refine (callsIn_wide.2 (show Calls Try.prog 44 #[.agg (macCells N Q).toArray] x3 _ from mmem_any N Q x3)).mono ?_
      rintro e x4 ⟨rfl, hb⟩
      have hx4 : KeptW W x4 := KeptW.mono hx3 hb
      refine hK (KeptW W) _ _ (fun y h => h) hx4 ?_
      clear hK K K0 hK0 hb
      (refine RegK.can_reads ?_; intro K hK; go_simp; (first | (refine ⟨_, fun _ _ => rfl, hK _ ?_⟩) | (refine hK _ ?_)); clear hK K)
      (refine RegK.can_reads ?_; intro K hK; go_simp; (first | (refine ⟨_, fun _ _ => rfl, hK _ ?_⟩) | (refine hK _ ?_)); clear hK K)
      (refine RegK.can_reads ?_; intro K hK; go_simp; (first | (refine ⟨_, fun _ _ => rfl, hK _ ?_⟩) | (refine hK _ ?_)); clear hK K)
      refine RegK.can_reads ?_
      intro K hK
      go_simp
      refine ⟨.agg (macCells M P).toArray, fun y hy => ?_, hK _ ?_⟩
      · rw [mac_eta M P]
        obtain ⟨⟨m0, m1, m14⟩, ⟨m2, m3, m4⟩, ⟨m5, m6, m7⟩, ⟨m8, m9, m10⟩, ⟨m11, m12, m13⟩⟩ := (HSw.out.a.below (KeptW.bel hy)).cells
        go_simp
      clear hK K
      refine RegK.can_reads ?_
      intro K hK
      go_simp
      refine ⟨.agg (macCells N Q).toArray, fun y hy => ?_, hK _ ?_⟩
      · rw [mac_eta N Q]
        obtain ⟨⟨m0, m1, m14⟩, ⟨m2, m3, m4⟩, ⟨m5, m6, m7⟩, ⟨m8, m9, m10⟩, ⟨m11, m12, m13⟩⟩ := (HSw.out.b.below (KeptW.bel hy)).cells
        go_simp
      clear hK K
      refine RegK.can_narrows (fun _ => trivial) ?_
      intro K K0 hK hK0
      go_simp
      refine ⟨trivial, ?_⟩
      refine (callsIn_wide.2 (show Calls Try.prog 45 #[.agg (macCells M P).toArray] x4 _ from mtable_any M P x4)).mono ?_
      rintro e x5 ⟨rfl, hb⟩
      have hx5 : KeptW W x5 := KeptW.mono hx4 hb
      refine hK (KeptW W) _ _ (fun y h => h) hx5 ?_
      clear hK K K0 hK0 hb
      refine RegK.can_narrows (fun _ => trivial) ?_
      intro K K0 hK hK0
      go_simp
      refine ⟨trivial, ?_⟩
      refine (callsIn_wide.2 (show Calls Try.prog 45 #[.agg (macCells N Q).toArray] x5 _ from mtable_any N Q x5)).mono ?_
      rintro e x6 ⟨rfl, hb⟩
      have hx6 : KeptW W x6 := KeptW.mono hx5 hb
      refine hK (KeptW W) _ _ (fun y h => h) hx6 ?_
      clear hK K K0 hK0 hb
      refine RegK.can_reads ?_
      intro K hK
      go_simp
      refine ⟨.bool b3, fun y hy => ?_, hK _ ?_⟩
      · have f0 := Hte.out y
        go_simp
      clear hK K
      (refine RegK.can_reads ?_; intro K hK; go_simp; (first | (refine ⟨_, fun _ _ => rfl, hK _ ?_⟩) | (refine hK _ ?_)); clear hK K)
      have z0 := (HSw.out.below (KeptW.bel hx6)).r.cell
      have z1 := (HSw.out.below (KeptW.bel hx6)).r.frozen
      refine RegK.can_frees (fun _ => trivial) ?_
      intro K K0 hK hK0
      go_simp
      refine hK (fun _ => True) _ _ trivial ?_
      clear hK K hK0 K0
      refine RegK.can_calm ?_
      clear z0 z1
      have l7 := HSw.out.below (KeptW.bel hx6)
      have hx1' : (x6.setCell ⟨w.heap.size + 2, 0, none⟩ (.bool b3)).heap[E]? = some (.deferred (some [])) := (Below.heap_setCell _ _ _ _ (by show E ≠ w.heap.size + 2; have := HE.out; omega)).trans (((KeptW.bel hx6).block E (Array.getElem?_eq_some_iff.1 HK.out).1).trans HK.out)
      have hbx : BoxAt (x6.setCell ⟨w.heap.size + 2, 0, none⟩ (.bool b3)) (w.heap.size + 2) (.bool b3) 4 := l7.r.set
      have hbl : Below w.heap.size w (x6.setCell ⟨w.heap.size + 2, 0, none⟩ (.bool b3)) := below_set l7.bel (by omega)
      go_wp2_with fail
      generalize x6.setCell ⟨w.heap.size + 2, 0, none⟩ (.bool b3) = W6 at *
      have hc7 := cell_kept hbx.cell (grownBy_putObj' W6 E (.deferred none)) (fun r e => by cases e; exact ⟨_, hx1', rfl⟩)
      have hb7 : Below w.heap.size w (W6.putObj E (.deferred none)) := hbl.trans (belowK_b (w := w) (Nat.le_refl _) W6 E _ _ (by have h1 := HE.out; omega) hx1' rfl rfl)
      have hrb := Hrb.out
      simp only [Bool.true_and] at hrb
      subst hrb
      refine ⟨by simp, .inl ⟨_, _, rfl, run_takeDeferred hx1', ?_⟩⟩
      refine ⟨.bool b3, ?_, rfl, hb7⟩
      simp [results, Try.results33, go_sem, hc7]
theorem same2_any (M N : MacV) (T U : Tr) (w : World) (hT : TreeAt w T) (hU : TreeAt w U) (hsM : T.sh = M.sh) (hsN : U.sh = N.sh) (hasc : Asc T.sh.kv) (hascU : Asc U.sh.kv) (hcnt : T.cnt ≤ 1000000) (hcU : U.cnt ≤ 1000000) :
    Calls Try.prog 33 #[macV M T.ptr, macV N U.ptr] w fun e w' => e = .returned (.bool (macSame M N)) ∧ Below w.heap.size w w' :=
  callsIn_wide.1 (same2_in M N T U w hT hU hsM hsN hasc hascU hcnt hcU 3 (Nat.le_refl _))
end Go.Proofs.Ytkngadbeflepoaa
