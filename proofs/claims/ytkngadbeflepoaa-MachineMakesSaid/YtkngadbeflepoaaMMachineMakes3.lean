/- The law MachineMakes: of parts there is a machine just if its bytes can be read. Condition: the acts' keys are short. -/
import Derived.Test.YtkngadbeflepoaaMMachineMakes0
import Derived.Test.YtkngadbeflepoaaMMachineMakes1
import Derived.Test.YtkngadbeflepoaaMMachineMakes2
import Derived.Test.YtkngadbeflepoaaMMachineBack45
import Derived.Test.YtkngadbeflepoaaMMachineBack22
namespace Go.Proofs.Ytkngadbeflepoaa
open Go.RowKit Go.Shelf
attribute [local go_sem] Oper.semAt_some

/-- What MachineMakes has between two acts. -/
structure MmI (w0 w : World) (t : TabV) (X : Tr) (i : Nat) : Prop where
  tab : TabAt w w0.heap.size t
  tr : TreeAt w X
  asc : Asc X.sh.kv
  heap : X.sh.Heap
  few : X.cnt ≤ i
  bel : Below w0.heap.size w0 w
theorem MmI.below {w0 w w' : World} {t : TabV} {X : Tr} {i : Nat} (h : MmI w0 w t X i) (hb : Below w.heap.size w w') : MmI w0 w' t X i := ⟨h.tab.below' hb, h.tr.below hb, h.asc, h.heap, h.few, h.bel.trans (hb.mono h.bel.size)⟩
theorem mm_start (w : World) (t : TabV) : MmI w (w.alloc (.cells (tabCells t).toArray 65)) t .nil 0 :=
  ⟨heap_alloc_new _ _, trivial, List.Pairwise.nil, heap_nil, Nat.le_refl _, (Below.refl _ _).alloc (Nat.le_refl _) _⟩
theorem TreeAt.lows {n : Nat} {w w' : World} : ∀ {T : Tr}, TreeAt w T → T.Lo n → Below n w w' → TreeAt w' T
  | .nil, _, _, _ => trivial
  | .node _ _ _ _ _ _, ⟨h1, h2, h3⟩, ⟨l1, l2, l3⟩, hb => ⟨(hb.block _ l1).trans h1, TreeAt.lows h2 l2 hb, TreeAt.lows h3 l3 hb⟩
theorem below_ownN {n : Nat} {W0 W W' : World} {row : Option Nat} {B0 : Nat} (hB : n ≤ B0) (hn : n ≤ W0.heap.size) (h : Below n W0 W) (hg : W.grownBy W' row) (hr : ∀ r, row = some r → B0 ≤ r ∧ ∃ o : Obj, W.heap[r]? = some o ∧ o.isCells = false) : Below n W0 W' :=
  ⟨hg.os.trans h.os, hg.tape.trans h.tape, hg.output.trans h.output, Nat.le_trans h.size hg.size, fun q hq => (hg.block q (by have := h.size; omega) (fun e => by have := (hr q e.symm).1; omega)).trans (h.block q hq)⟩
set_option maxRecDepth 100000 in
set_option maxHeartbeats 32000000 in
theorem machineMakes_in (a m : Nat) (t : TabV) (la : Option Addr) (ln cap : Nat) (z : List TAct) (w : World) (ha : a < 256) (hm : m < 256) (hz : TActsAt w la ln z) (mm : Nat) (hmm : 3 ≤ mm) :
    CallsIn Fence.wide mm Try.prog 8 #[.int .u8 (a : Int), .int .u8 (m : Int), .agg (tabCells t).toArray, .slice la ln cap] w fun e w' => e = .returned (.bool true) ∧ Below w.heap.size w w' := by
  have hgr := fun (y : World) (hy : Below w.heap.size w y) => tgreat_any la ln cap z y (hz.below hy)
  obtain ⟨gr, hg⟩ : ∃ b, tgreatS z = b := ⟨_, rfl⟩
  rw [hg] at hgr
  have hsz := fun h : gr = false => tgreat_ok (z := z) (hg.trans h)
  clear hg
  have Hgr := Lib.hid hgr; clear hgr
  have Hsz := Lib.hid hsz; clear hsz
  have hI1 := mm_start w t
  have Hz := Lib.hid hz; clear hz
  rw [tab_eta]
  refine callsIn_of_wp_marks Try.func8 rfl trivial ?_ rfl
  simp only [Try.ntmps8, List.size_toArray, List.length_cons, List.length_nil, Nat.reduceAdd, Nat.reduceSub, Array.replicate_succ, Array.replicate_zero, List.push_toArray, List.append_toArray, List.nil_append, List.cons_append]
  refine wpIn_wide.2 ?_
  go_upto_region 1 with fail
  change Code.wp _ _ _ _ (w.alloc (.cells (tabCells t).toArray 65))
  generalize w.alloc (.cells (tabCells t).toArray 65) = w1 at *
  have HI1 := Lib.hid hI1; clear hI1
  have hgr1 := Hgr.out w1 HI1.out.bel
  clear Hgr
  cases gr with
  | true =>
    have Hg1 := Lib.hid hgr1; clear hgr1
    clear Hsz
    go_wp2_with (first
      | ((with_reducible refine Hg1.out.mono ?_); rintro e w' ⟨rfl, rfl⟩)
      | ((with_reducible refine (mwakes_any _).mono ?_); rintro e wz ⟨rfl, hw⟩; have Hw := Lib.hid (HI1.out.bel.trans (hw.mono HI1.out.bel.size)); clear hw))
    refine ⟨.bool true, ?_, rfl, Hw.out⟩
    simp [results, Try.results8, go_sem]
  | false =>
  have Hg1 := Lib.hid hgr1; clear hgr1
  obtain ⟨hln, hks⟩ := Hsz.out rfl
  rw [Hz.out.hlen] at hln hks
  have Hks := Lib.hid hks; clear hks Hsz
  go_wp2_with ((with_reducible refine Hg1.out.mono ?_); rintro e w' ⟨rfl, rfl⟩)
  clear Hg1
  go_loopw [9, 10] (fun s9 s10 wr => ∃ (i : Nat) (X : Tr), i ≤ ln ∧ s9 = .pointer X.ptr ∧ s10 = .int .i64 (i : Int) ∧ MmI w wr t X i) (fun _ s10 _ => ln - (intOf s10).toNat)
  case atStart => exact ⟨0, .nil, by omega, rfl, rfl, HI1.out⟩
  case round =>
    clear HI1
    obtain ⟨i, X, hi, rfl, rfl, hI⟩ := hrel
    have HI := Lib.hid hI; clear hI
    obtain ⟨P, hP⟩ : ∃ P, X.ptr = P := ⟨_, rfl⟩
    by_cases hlt : i < ln
    · have hlt' : (i : Int) < (ln : Int) := by omega
      obtain ⟨b, o, rfl, hbl, e0, e1, e2⟩ := tacts_cells (Hz.out.below HI.out.bel) hlt
      have hsucc := tsucc (n := i) (by omega)
      have hk := (Hks.out i hlt).1
      generalize z.getD i default = x at *
      have hdoes := does_any x (by unfold maxLen; omega) X wr.heap.size wr (Nat.le_refl _) HI.out.tr.lo HI.out.tr (by have := HI.out.few; omega)
      have hasc := asc_step HI.out.asc x
      have hhp := heap_step HI.out.heap HI.out.asc x
      obtain ⟨x0, x1, x2⟩ := x
      simp only at e0 e1 e2 hk
      rw [hP] at hdoes ⊢
      have Hdoes := Lib.hid (show Calls Try.prog 14 #[.pointer P, .agg #[.int .u8 (x0.toNat : Int), .string x1, .string x2]] wr _ from hdoes); clear hdoes
      have Hasc := Lib.hid (And.intro hasc hhp); clear hasc hhp
      have HP := Lib.hid hP; clear hP
      go_wp2_with ((with_reducible refine Hdoes.out.mono ?_); rintro e w3 ⟨Y, rfl, hx⟩; have Hx := Lib.hid hx; clear hx)
      go_roundw
      case rel =>
        have hb := Hx.out.bel
        exact ⟨i + 1, Y, hlt, rfl, rfl, HI.out.tab.below' hb, Hx.out.at_, by rw [Hx.out.shp]; exact Hasc.out.1, by rw [Hx.out.shp]; exact Hasc.out.2, by have h1 := Hx.out.num; have h2 := HI.out.few; omega, HI.out.bel.trans (hb.mono HI.out.bel.size)⟩
      case measure => simp [intOf]; omega
    · have hlt' : ¬ (i : Int) < (ln : Int) := by omega
      obtain rfl : i = ln := by omega
      clear hlt hi Hks Hz
      have hmk := make_any ⟨a, m, t, X.sh⟩ X wr HI.out.tr rfl (by have := HI.out.few; omega) ha hm
      have hM : (⟨a, m, t, X.sh⟩ : MacV).all = a ∧ (⟨a, m, t, X.sh⟩ : MacV).mem = m ∧ (⟨a, m, t, X.sh⟩ : MacV).tab = t ∧ (⟨a, m, t, X.sh⟩ : MacV).sh = X.sh := ⟨rfl, rfl, rfl, rfl⟩
      obtain ⟨M, hMM⟩ : ∃ M : MacV, (⟨a, m, t, X.sh⟩ : MacV) = M := ⟨_, rfl⟩
      rw [hMM] at hmk hM
      clear hMM
      obtain ⟨rfl, rfl, rfl, hsh⟩ := hM
      rw [hP] at hmk ⊢
      have hall : makeOk M = true → MacAll M := fun e => make_all e (by rw [hsh]; exact HI.out.asc) (by rw [hsh]; exact HI.out.heap)
      have hord := make_order M
      obtain ⟨rb, hrb⟩ : ∃ b, makeOk M = b := ⟨_, rfl⟩
      rw [hrb] at hmk hall hord
      clear hrb
      have Hall := Lib.hid hall; clear hall
      have Hord := Lib.hid hord; clear hord
      rw [tab_eta] at hmk
      obtain ⟨⟨a0, a1, a2⟩, ⟨b0, b1, b2⟩, ⟨c0, c1, c2⟩, ⟨d0, d1, d2⟩⟩ := HI.out.tab.cells
      have HX := Lib.hid (And.intro hP hsh.symm); clear hP hsh
      cases rb with
      | false =>
        rw [if_neg (by decide), if_neg (by decide)] at hmk
        unfold macV at hmk
        rw [mac_eta] at hmk
        have Hmk := Lib.hid hmk; clear hmk Hall
        go_upto_region 9 with ((with_reducible refine Hmk.out.mono ?_); rintro e w4 ⟨rfl, -, hb4⟩; have Hb4 := Lib.hid hb4; clear hb4)
        change Code.wp _ _ _ _ (w4.alloc (.cells (macCells macNone none).toArray 69))
        clear Hmk a0 a1 a2 b0 b1 b2 c0 c1 c2 d0 d1 d2
        have hb5 := (Below.refl w4.heap.size w4).alloc (Nat.le_refl _) (.cells (macCells macNone none).toArray 69)
        have HS := Lib.hid (show MacAt (w4.alloc (.cells (macCells macNone none).toArray 69)) w4.heap.size macNone none from heap_alloc_new _ _)
        have HI5 := Lib.hid (HI.out.below (Hb4.out.trans (hb5.mono Hb4.out.size)))
        clear hb5 HI Hb4
        generalize w4.alloc (.cells (macCells macNone none).toArray 69) = w5 at *
        generalize w4.heap.size = gs at *
        go_upto_region 10 with fail
        refine mm_good w5 M.all M.mem P X (Lib.hid ⟨HI5.out.tr, HX.out.1⟩) ha hm _ _ _ _ _ _ _ _ _ _ _ _ _ _ _ _ _ _ _ _ _ _ _ _ _ _ _ _ _ _ _ _ _ _ _ _ _ _ _ _ _ _ _ _ _ _ _ _ _ _ _ _ _ _ _ _ _ _ _ _ _ _ _ _ _ _ _ _ _ _ _ _ _ _ _ _ _ _ _ _ _ _ _ _ _ _ _ _ _ _ _ _ _ _ _ _ _ _ _ _ _ _ _ _ _ _ _ _ _ _ _ _ _ _ _ _ _ _ _ _ _ _ _ _ _ _ _ _ _ _ _ _ _ _ _ _ _ _ _ _ _ _ _ _ _ _ _ _ _ _ _ _ _ _ _ _ _ _ _ _ _ _ _ _ _ _ _ _ _ _ _ _ _ _ _ _ (Lib.hid ?_)
        intro s45 s46 s47 s48 s49 s50 s51 s52 s53 s54 s55 s56 s57 s58 s59 s60 s61 s62 s63 s64 s65 w6 hE
        have HE := Lib.hid hE; clear hE
        have hgs : gs < w5.heap.size := HS.out.lt
        have hgt : w.heap.size < w5.heap.size := HI5.out.tab.lt
        have hlo : X.Lo w5.heap.size := HI5.out.tr.lo
        have HI6 := Lib.hid (HI5.out.below HE.out.2)
        have HS6 := Lib.hid (HS.out.below HE.out.2)
        clear HI5 HS
        generalize w5.heap.size = gg at *
        have Hlo := Lib.hid (And.intro hlo (And.intro hgs hgt)); clear hlo hgs hgt
        have HB6 := Lib.hid HE.out.1; clear HE
        obtain ⟨g0, hg0⟩ : ∃ g0, (setsG M.all M.mem && decide (X.cnt ≤ 256)) = g0 := ⟨_, rfl⟩
        rw [hg0] at HB6
        rw [← HX.out.2, ← sh_cnt, hg0] at Hord
        clear hg0
        go_wp2_with fail
        refine mm_loop w6 w.heap.size gg M.tab g0 (Lib.hid HI6.out.tab) HB6 (Lib.hid Hlo.out.2.2) _ _ _ _ _ _ _ _ _ _ _ _ _ _ _ _ _ _ _ _ _ _ _ _ _ _ _ _ _ _ _ _ _ _ _ _ _ _ _ _ _ _ _ _ _ _ _ _ _ _ _ _ _ _ _ _ _ _ _ _ _ _ _ _ _ _ _ _ _ _ _ _ _ _ _ _ _ _ _ _ _ _ _ _ _ _ _ _ _ _ _ _ _ _ _ _ _ _ _ _ _ _ _ _ _ _ _ _ _ _ _ _ _ _ _ _ _ _ _ _ _ _ _ _ _ _ _ _ _ _ _ _ _ _ _ _ _ _ _ _ _ _ _ _ _ _ _ _ _ _ _ _ _ _ _ _ _ _ _ _ _ _ _ _ _ _ _ _ _ _ _ _ _ _ _ _ (Lib.hid ?_)
        intro s14 s66 s67 s68 s69 s70 s71 s72 s73 s74 s75 s76 s77 s78 s79 s80 s81 s82 s83 s84 s85 s86 s87 s88 s89 s90 s91 s92 s93 s94 s95 s96 s97 s98 s99 s100 s101 s102 w7 hE
        have HE := Lib.hid hE; clear hE
        have hgl6 : gg < w6.heap.size := HB6.out.lt
        have HT7 := Lib.hid (show TreeAt w7 X ∧ MacAt w7 gs macNone none ∧ Below w.heap.size w w7 from
          ⟨HI6.out.tr.lows Hlo.out.1 HE.out.2, (HE.out.2.block _ Hlo.out.2.1).trans HS6.out, HI6.out.bel.trans (HE.out.2.mono (Nat.le_of_lt Hlo.out.2.2))⟩)
        have HB7 := Lib.hid HE.out.1
        clear HE HI6 HS6 HB6 hgl6
        obtain ⟨g1, hg1⟩ : ∃ g1, (g0 && tabOkB M.tab 4) = g1 := ⟨_, rfl⟩
        rw [hg1] at HB7 Hord
        clear hg1
        have hseq := seq_some
        go_wp2_with ((with_reducible refine (callsIn_wide.1 (all_in 1 _ _)).mono ?_); rintro e w9 ⟨rfl, rfl⟩)
        clear hseq
        have hba := (Below.refl w7.heap.size w7).alloc (Nat.le_refl _) (.cells #[.pointer P] 25)
        have hT8 := HT7.out.1.below hba
        have hS8 := HT7.out.2.1.below hba
        have hb8 := HT7.out.2.2.trans (hba.mono HT7.out.2.2.size)
        have hB8 := HB7.out.below hba
        have hgl : gg < w7.heap.size := HB7.out.lt
        have hbt := BoxAt.new w7 (.pointer P) 25
        have hsz : (w7.alloc (.cells #[.pointer P] 25)).heap.size = w7.heap.size + 1 := by simp
        clear HT7 HB7 hba
        generalize w7.alloc (.cells #[.pointer P] 25) = w8 at *
        generalize w7.heap.size = g2 at *
        have hstops := all_stops (mm - 1) g2 gg (g2 + 1) X w8 (by omega) (by omega) (by omega) (by rw [HX.out.1]; exact hbt.cell) hT8 Hlo.out.1
        have Hstops := Lib.hid hstops; clear hstops hbt
        have H8 := Lib.hid (show MacAt w8 gs macNone none ∧ Below w.heap.size w w8 from ⟨hS8, hb8⟩); clear hS8 hb8 hT8
        have HB8 := Lib.hid hB8; clear hB8
        have Hsz := Lib.hid (And.intro hsz hgl); clear hsz hgl
        refine (wpIn_wide (n := mm)).1 ?_
        refine Range.wpIn_range (F := Fence.wide) rfl (by omega) (gf := 88) (lb := #[.pointer (some ⟨g2, 0, none⟩)]) rfl trivial (enters_of Try.func88 (by kernel_rfl) rfl)
          Hstops.out (fun h k => h.trans k) (keepC_b (by have := Hsz.out; omega)) (Below.refl _ _) (fun _ => rfl)
          (fun s W => BoxAt W gg (.bool (g1 && kvAll s)) 4 ∧ Below gg w8 W) (fun _ _ _ => False)
          (fun s W W' row hs hg hr => ⟨BoxAt.own (f := fun s : Prs => .bool (g1 && kvAll s)) s W W' row hs.1 hg hr, below_ownN (by have := Hsz.out; omega) (by have := Hsz.out; omega) hs.2 hg hr⟩) (fun _ _ _ _ _ h _ _ => h.elim) ⟨by rw [show kvAll [] = true from rfl, Bool.and_true]; exact HB8.out, Below.refl _ _⟩ ?round ?done ?stop
        case round =>
          rintro l pre x V2 ⟨hbx, hi⟩ hlen
          clear Hstops hlen
          obtain ⟨xk, xv⟩ := x
          have hsn : (g1 && kvAll (pre ++ [(xk, xv)])) = ((g1 && kvAll pre) && kvAll [(xk, xv)]) := by rw [kvAll_app, Bool.and_assoc]
          obtain ⟨g, hg⟩ : ∃ g, (g1 && kvAll pre) = g := ⟨_, rfl⟩
          rw [hg] at hbx hsn
          clear hg
          have Hi := Lib.hid hi; clear hi
          have Hbx := Lib.hid hbx; clear hbx
          have hl2 : w8.heap.size ≤ V2.heap.size := Hi.out.size
          gi_wp2
          refine ⟨KeepsFrom.refl _ _, KeepC.refl _ _ _, fun W2 hT => ?_⟩
          have hi2 := Hi.out.trans (turned_below (n := gg) (by have := Hsz.out; omega) hT)
          have HL := Lib.hid (show BoxAt W2 gg (.bool g) 4 from turned_cells hT Hbx.out)
          have z0 := HL.out.cell
          have z1 := HL.out.frozen
          have Hset := Lib.hid (fun v : Value => HL.out.set (v' := v))
          have Hbs := Lib.hid (fun v : Value => below_setV (i := 0) (x := v) hi2 (Nat.le_refl gg))
          clear hi2 hT Hi Hbx hl2
          cases g with
          | false =>
            rw [Bool.false_and] at hsn
            have Hsn := Lib.hid hsn; clear hsn
            gi_wp2
            exact ⟨keepsFrom_set (KeepsFrom.refl _ _), ⟨below_setV (Below.refl _ _) (Nat.le_refl _), fun r cs t f hr e => (Below.heap_setCell _ _ _ _ (by show r ≠ gg; have := Hsz.out; omega)).trans e⟩, by rw [Hsn.out]; exact Hset.out _, Hbs.out _⟩
          | true =>
            rw [Bool.true_and] at hsn
            by_cases c1 : xk.toList = []
            · have c1' : (xk.toList == []) = true := by rw [c1]; rfl
              have hsn2 : kvAll [(xk, xv)] = false := by rw [kvAll_one]; simp [pairOkB, c1]
              rw [hsn2] at hsn
              have Hsn := Lib.hid hsn; clear hsn hsn2 c1
              gi_wp2
              exact ⟨keepsFrom_set (KeepsFrom.refl _ _), ⟨below_setV (Below.refl _ _) (Nat.le_refl _), fun r cs t f hr e => (Below.heap_setCell _ _ _ _ (by show r ≠ gg; have := Hsz.out; omega)).trans e⟩, by rw [Hsn.out]; exact Hset.out _, Hbs.out _⟩
            · have c1' : (xk.toList == []) = false := by simpa using c1
              by_cases c2 : xk.size ≤ 16
              · have c2' : (xk.size : Int) ≤ 16 := by omega
                by_cases c3 : xv.size ≤ 64
                · have c3' : (xv.size : Int) ≤ 64 := by omega
                  have hsn2 : kvAll [(xk, xv)] = true := by rw [kvAll_one]; simp [pairOkB, c1, c2, c3]
                  rw [hsn2] at hsn
                  have Hsn := Lib.hid hsn; clear hsn hsn2 c1 c2 c3
                  gi_wp2
                  exact ⟨keepsFrom_set (KeepsFrom.refl _ _), ⟨below_setV (Below.refl _ _) (Nat.le_refl _), fun r cs t f hr e => (Below.heap_setCell _ _ _ _ (by show r ≠ gg; have := Hsz.out; omega)).trans e⟩, by rw [Hsn.out]; exact Hset.out _, Hbs.out _⟩
                · have c3' : ¬ (xv.size : Int) ≤ 64 := by omega
                  have hsn2 : kvAll [(xk, xv)] = false := by rw [kvAll_one]; simp [pairOkB, c3]
                  rw [hsn2] at hsn
                  have Hsn := Lib.hid hsn; clear hsn hsn2 c1 c2 c3
                  gi_wp2
                  exact ⟨keepsFrom_set (KeepsFrom.refl _ _), ⟨below_setV (Below.refl _ _) (Nat.le_refl _), fun r cs t f hr e => (Below.heap_setCell _ _ _ _ (by show r ≠ gg; have := Hsz.out; omega)).trans e⟩, by rw [Hsn.out]; exact Hset.out _, Hbs.out _⟩
              · have c2' : ¬ (xk.size : Int) ≤ 16 := by omega
                have hsn2 : kvAll [(xk, xv)] = false := by rw [kvAll_one]; simp [pairOkB, c2]
                rw [hsn2] at hsn
                have Hsn := Lib.hid hsn; clear hsn hsn2 c1 c2
                gi_wp2
                exact ⟨keepsFrom_set (KeepsFrom.refl _ _), ⟨below_setV (Below.refl _ _) (Nat.le_refl _), fun r cs t f hr e => (Below.heap_setCell _ _ _ _ (by show r ≠ gg; have := Hsz.out; omega)).trans e⟩, by rw [Hsn.out]; exact Hset.out _, Hbs.out _⟩
        case stop =>
          rintro E c pre V2 hE hpre h _
          exact h.elim
        case done =>
          rintro E ys W hE hS ⟨hbx, hI⟩ hK
          have hno : (g1 && kvAll ys) = false := by
            have := Hord.out
            rw [hS]
            exact this.symm
          rw [hno] at hbx
          clear Hstops hno hS
          have z0 := hbx.cell
          have HS9 := Lib.hid (show MacAt W gs macNone none from (hI.block _ Hlo.out.2.1).trans H8.out.1)
          have Hb9 := Lib.hid (H8.out.2.trans (hI.mono (Nat.le_of_lt Hlo.out.2.2)))
          have hle := hI.size
          have HK := Lib.hid (show W.heap[E]? = some (.deferred (some [])) ∧ w.heap.size ≤ E from ⟨hK, by have h1 := Hsz.out; have h2 := Hlo.out; omega⟩); clear hK hE hbx hI hle
          clear HB8 H8
          have hsm := fun y : World => same2_any macNone macNone .nil .nil y trivial trivial rfl rfl List.Pairwise.nil List.Pairwise.nil (Nat.zero_le _) (Nat.zero_le _)
          rw [(macSame_iff heap_nil heap_nil).2 rfl] at hsm
          unfold macV at hsm
          rw [mac_eta] at hsm
          have Hsm := Lib.hid hsm; clear hsm
          obtain ⟨⟨m0, m1, m14⟩, ⟨m2, m3, m4⟩, ⟨m5, m6, m7⟩, ⟨m8, m9, m10⟩, ⟨m11, m12, m13⟩⟩ := HS9.out.cells
          go_wp2_with (first
            | ((with_reducible refine (mwakes_any _).mono ?_); rintro e wz ⟨rfl, hw⟩; have Hw := Lib.hid hw; clear hw)
            | (refine (Hsm.out _).mono ?_; rintro e wy ⟨rfl, hy⟩; have Hy := Lib.hid hy; clear hy))
          have hyw := Hy.out.trans (Hw.out.mono Hy.out.size)
          have hx1' : wz.heap[E]? = some (.deferred (some [])) := (hyw.block E (Array.getElem?_eq_some_iff.1 HK.out.1).1).trans HK.out.1
          have hb7 : Below w.heap.size w (wz.putObj E (.deferred none)) := (Hb9.out.trans (hyw.mono Hb9.out.size)).trans (belowK_b (w := w) (Nat.le_refl _) wz E _ _ HK.out.2 hx1' rfl rfl)
          refine ⟨by simp, .inl ⟨_, _, rfl, run_takeDeferred hx1', ?_⟩⟩
          refine ⟨.bool true, ?_, rfl, hb7⟩
          simp [results, Try.results8, go_sem]
      | true =>
        rw [if_pos rfl, if_pos rfl] at hmk
        unfold macV at hmk
        rw [mac_eta] at hmk
        have Hmk := Lib.hid hmk; clear hmk
        have HA := Lib.hid (Hall.out rfl); clear Hall Hord
        go_upto_region 9 with ((with_reducible refine Hmk.out.mono ?_); rintro e w4 ⟨rfl, -, hb4⟩; have Hb4 := Lib.hid hb4; clear hb4)
        change Code.wp _ _ _ _ (w4.alloc (.cells (macCells M P).toArray 69))
        clear Hmk a0 a1 a2 b0 b1 b2 c0 c1 c2 d0 d1 d2
        have hb5 := (Below.refl w4.heap.size w4).alloc (Nat.le_refl _) (.cells (macCells M P).toArray 69)
        have HS := Lib.hid (show MacAt (w4.alloc (.cells (macCells M P).toArray 69)) w4.heap.size M P from heap_alloc_new _ _)
        have HI5 := Lib.hid (HI.out.below (Hb4.out.trans (hb5.mono Hb4.out.size)))
        clear hb5 HI Hb4
        generalize w4.alloc (.cells (macCells M P).toArray 69) = w5 at *
        generalize w4.heap.size = gs at *
        have hby := mbytes_any M X (macFit_by HA.out.fit) w5 HI5.out.tr HX.out.2
        have hof := fun y : World => mof_back HA.out y
        obtain ⟨SA, hSA⟩ : ∃ S : ByteArray, (⟨(macB M).toArray⟩ : ByteArray) = S := ⟨_, rfl⟩
        rw [hSA] at hby hof
        clear hSA
        rw [HX.out.1] at hby
        unfold macV at hby
        rw [mac_eta M P] at hby
        have Hby := Lib.hid hby; clear hby
        have Hof := Lib.hid hof; clear hof
        obtain ⟨⟨m0, m1, m14⟩, ⟨m2, m3, m4⟩, ⟨m5, m6, m7⟩, ⟨m8, m9, m10⟩, ⟨m11, m12, m13⟩⟩ := HS.out.cells
        go_upto_region 24 with (first
          | ((with_reducible refine Hby.out.mono ?_); rintro e w6 ⟨rfl, hb6⟩; have Hb6 := Lib.hid hb6; clear hb6)
          | ((with_reducible refine (Hof.out _).mono ?_); rintro e w7 ⟨Z, rfl, hZ, hZs, hb7⟩; have HZ := Lib.hid (And.intro hZ (And.intro hZs hb7)); clear hZ hZs hb7; unfold macV; rw [mac_eta M Z.ptr]))
        change Code.wp _ _ _ _ (w7.alloc (.cells (macCells M Z.ptr).toArray 69))
        clear m0 m1 m2 m3 m4 m5 m6 m7 m8 m9 m10 m11 m12 m13 m14 Hby Hof
        have hb8 := HZ.out.2.2.alloc HZ.out.2.2.size (.cells (macCells M Z.ptr).toArray 69)
        have hb58 := Hb6.out.trans (hb8.mono Hb6.out.size)
        have HQ := Lib.hid (show TabAt (w7.alloc (.cells (macCells M Z.ptr).toArray 69)) w.heap.size M.tab ∧ MacAt (w7.alloc (.cells (macCells M Z.ptr).toArray 69)) gs M P ∧ MacAt (w7.alloc (.cells (macCells M Z.ptr).toArray 69)) w7.heap.size M Z.ptr ∧ TreeAt (w7.alloc (.cells (macCells M Z.ptr).toArray 69)) X ∧ TreeAt (w7.alloc (.cells (macCells M Z.ptr).toArray 69)) Z from
          ⟨HI5.out.tab.below' hb58, HS.out.below hb58, heap_alloc_new _ _, HI5.out.tr.below hb58, HZ.out.1.below ((Below.refl _ _).alloc (Nat.le_refl _) _)⟩)
        have HX8 := Lib.hid (show X.ptr = P ∧ X.sh = M.sh ∧ Z.sh = M.sh from ⟨HX.out.1, HX.out.2, HZ.out.2.1⟩)
        have Hbel := Lib.hid (HI5.out.bel.trans (hb58.mono HI5.out.bel.size))
        clear hb8 hb58 HZ HI5 HS Hb6 HX
        generalize w7.alloc (.cells (macCells M Z.ptr).toArray 69) = w8 at *
        generalize w7.heap.size = gx at *
        refine mm_reg24 w8 w.heap.size gs gx M P X Z HQ HX8 HA _ _ _ _ _ _ _ _ _ _ _ _ _ _ _ _ _ _ _ _ _ _ _ _ _ _ _ _ _ _ _ _ _ _ _ _ _ _ _ _ _ _ _ _ _ _ _ _ _ _ _ _ _ _ _ _ _ _ _ _ _ _ _ _ _ _ _ _ _ _ _ _ _ _ _ _ _ _ _ _ _ _ _ _ _ _ _ _ _ _ _ _ _ _ _ _ _ _ _ _ _ _ _ _ _ _ _ _ _ _ _ _ _ _ _ _ _ _ _ _ _ _ _ _ _ _ _ _ _ _ _ _ _ _ _ _ _ _ _ _ _ _ _ _ _ _ _ _ _ _ _ _ _ _ _ _ _ _ _ _ _ _ _ _ _ _ _ _ _ _ _ _ (Lib.hid ?_)
        intro s145 s146 s147 s148 s149 s150 s151 s152 s153 s154 s155 s156 s157 s158 s159 s160 s161 s162 s163 s164 s165 s166 s167 s168 s169 s170 s171 s172 s173 s174 s175 s176 s177 s178 w9 hb9
        go_wp2_with fail
        refine ⟨.bool true, ?_, rfl, Hbel.out.trans (hb9.mono Hbel.out.size)⟩
        simp [results, Try.results8, go_sem]
theorem machineMakes_law (a0 a1 : Int) (t : TabV) (la : Option Addr) (ln cap : Nat) (z : List TAct) (w0 : (Lit.int .u8 a0).wf = true) (w1 : (Lit.int .u8 a1).wf = true) {w : World} (h3 : TActsAt w la ln z) (_W : World) :
    Calls Try.prog 8 #[.int .u8 a0, .int .u8 a1, .agg (tabCells t).toArray, .slice la ln cap] w fun e w' => e = .returned (.bool true) ∧ Below w.heap.size w w' := by
  obtain ⟨x, rfl⟩ := tr_u8 w0
  obtain ⟨y, rfl⟩ := tr_u8 w1
  exact callsIn_wide.1 (machineMakes_in x.toNat y.toNat t la ln cap z w x.isLt y.isLt h3 3 (Nat.le_refl _))
end Go.Proofs.Ytkngadbeflepoaa
