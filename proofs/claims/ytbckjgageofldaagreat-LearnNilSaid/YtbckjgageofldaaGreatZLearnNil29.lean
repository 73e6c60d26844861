/- Machines: tableMay. No condition. -/
import Derived.Test.YtbckjgageofldaaGreatZLearnNil22
import Derived.Test.YtbckjgageofldaaGreatZLearnNil27
import Derived.Test.YtbckjgageofldaaGreatZLearnNil24
import Derived.Test.YtbckjgageofldaaGreatZLearnNil18
import Derived.Test.YtbckjgageofldaaGreatZLearnNil10
import Derived.Deep.DeepCutAuto
import Derived.Test.YtbckjgageofldaaGreatZLearnNil25
import Derived.Test.YtbckjgageofldaaGreatZLearnNil16
import Derived.Test.YtbckjgageofldaaGreatZLearnNil5
namespace Go.Proofs.YtbckjgageofldaaGreat
open Go.RowKit
def lastOkB (x : LastV) : Bool := decide (x.code ≤ 3) && decide (x.text.size ≤ 64) && (decide (x.seq.toNat ≠ 0) || lastE x lastNone)
def tabOkB (t : TabV) : Nat → Bool
 | 0 => true
 | n + 1 => tabOkB t n && lastOkB (t.at_ n)
theorem tabOkB_no {t : TabV} : ∀ {n m : Nat}, n < m → lastOkB (t.at_ n) = false → tabOkB t m = false
 | n, 0, h, _ => by omega
 | n, m + 1, h, hl => by
  unfold tabOkB
  by_cases e : n = m
  ·
   subst e; rw [hl, Bool.and_false]
  ·
   rw [tabOkB_no (show n < m by omega) hl, Bool.false_and]
set_option maxRecDepth 100000 in
set_option maxHeartbeats 8000000 in
theorem tableMay_any (M : MacV) (P : Option Addr) (w : World) :
  Calls Tryz.prog 158 #[.agg (macCells M P).toArray] w fun e w' => e = .returned (.bool (tabOkB M.tab 4)) ∧ Below w.heap.size w w' := by
 have hb1 := (Below.refl w.heap.size w).alloc (Nat.le_refl _) (.cells (macCells M P).toArray 36)
 have hp1 : PartAt (w.alloc (.cells (macCells M P).toArray 36)) w.heap.size M P := heap_alloc_new _ _
 have hidx := fun (i : Nat) (hi : i < 4) (y : World) => tab_index M.tab i hi y
 obtain ⟨V, hV⟩ : ∃ V : Value, .agg (tabCells M.tab).toArray = V := ⟨_, rfl⟩
 rw [hV] at hidx
 rw [tab_eta] at hV
 have Hidx := Lib.hid hidx; clear hidx
 obtain ⟨rb, hrb⟩ : ∃ b, tabOkB M.tab 4 = b := ⟨_, rfl⟩
 rw [hrb]
 have Hrb := Lib.hid hrb; clear hrb
 rw [mac_eta]
 go_enter Tryz.func158, Tryz.ntmps158
 go_upto_region 1 with fail
 change Code.wp _ _ _ _ (w.alloc (.cells (macCells M P).toArray 36))
 generalize w.alloc (.cells (macCells M P).toArray 36) = w1 at *
 obtain ⟨p2, p3, p4, p5, p6, p7, p8, p9, p10, p11, p12, p13⟩ := hp1.tabs
 have Hb1 := Lib.hid hb1; clear hb1 hp1
 go_wp2_with fail
 clear p2 p3 p4 p5 p6 p7 p8 p9 p10 p11 p12 p13 hV
 go_loopw [7] (fun s7 wr => ∃ (i : Nat), i ≤ 4 ∧ s7 = .int .i64 (i : Int) ∧ tabOkB M.tab i = true ∧ Below w.heap.size w wr) (fun s7 _ => 4 - (intOf s7).toNat)
 case atStart => exact ⟨0, by omega, rfl, rfl, Hb1.out⟩
 case round =>
  clear Hb1
  obtain ⟨i, hi, rfl, hok, hbel⟩ := hrel
  have Hbel := Lib.hid hbel; clear hbel
  have Hok := Lib.hid hok; clear hok
  by_cases hi4 : i < 4
  ·
   have hi4' : (i : Int) < 4 := by omega
   have hix := Hidx.out i hi4
   have hno := tabOkB_no (t := M.tab) hi4
   have hstep : tabOkB M.tab (i + 1) = (tabOkB M.tab i && lastOkB (M.tab.at_ i)) := rfl
   rw [Hok.out, Bool.true_and] at hstep
   obtain ⟨x, hx⟩ : ∃ x, M.tab.at_ i = x := ⟨_, rfl⟩
   rw [hx] at hix hno hstep
   clear hx
   rw [Hrb.out] at hno
   have Hno := Lib.hid hno; clear hno
   have Hstep := Lib.hid hstep; clear hstep
   have hixA : ∀ y, (Instr.index 31 V (.int .i64 (i : Int))).run Tryz.prog y = .ok (.agg #[.int .u32 (x.seq.toNat : Int), .int .u8 (x.code : Int), .string x.text]) y := hix
   clear hix
   have hL := LastCells.new wr x
   have hba := Hbel.out.alloc Hbel.out.size (.cells (lastCells x).toArray 29)
   have hisu := tsucc (n := i) (by omega)
   have hlk : lastOkB x = (decide (x.code ≤ 3) && decide (x.text.size ≤ 64) && (decide (x.seq.toNat ≠ 0) || lastE x lastNone)) := rfl
   go_upto_region 4 with fail
   change Code.wp _ _ _ _ (wr.alloc (.cells (lastCells x).toArray 29))
   generalize wr.alloc (.cells (lastCells x).toArray 29) = w2 at *
   have Hba := Lib.hid hba; clear hba
   obtain ⟨l0, l1, l2⟩ := hL
   clear hixA
   by_cases c1 : x.code ≤ 3
   ·
    have c1' : ¬ (3 : Int) < (x.code : Int) := by omega
    by_cases c2 : x.text.size ≤ 64
    ·
     have c2' : ¬ (64 : Int) < (x.text.size : Int) := by omega
     rw [decide_eq_true c1, decide_eq_true c2, Bool.true_and, Bool.true_and] at hlk
     by_cases c3 : x.seq.toNat = 0
     ·
      have c3' : ((x.seq.toNat : Int) == 0) = true := by simp [c3]
      rw [show decide (x.seq.toNat ≠ 0) = false by simp [c3], Bool.false_or] at hlk
      have hbe : lastE x lastNone = (decide (x.code = 0) && decide (x.text.toList = [])) := by
       unfold lastE
       rw [show (lastNone.seq.toNat) = 0 from rfl, show lastNone.code = 0 from rfl, show lastNone.text.toList = [] by rw [show lastNone.text = ByteArray.empty from rfl, ByteArray.toList_eq]; rfl, c3]
       simp
      rw [hbe] at hlk
      have Hlk := Lib.hid hlk; clear hlk hbe
      clear c1 c2 c3
      by_cases d1 : x.code = 0
      ·
       by_cases d2 : x.text.toList = []
       ·
        have hk : lastOkB x = true := by rw [Hlk.out]; simp [d1, d2]
        have Hk := Lib.hid hk; clear hk Hlk
        go_wp2_with fail
        go_roundw
        case rel => exact ⟨i + 1, hi4, rfl, by rw [Hstep.out, Hk.out], Hba.out⟩
        case measure => simp [intOf]; omega
       ·
        have hk : lastOkB x = false := by rw [Hlk.out]; simp [d2]
        have Hk := Lib.hid hk; clear hk Hlk
        go_wp2_with fail
        go_ret
        exact ⟨by rw [Hno.out Hk.out]; rfl, Hba.out⟩
      ·
       have hk : lastOkB x = false := by rw [Hlk.out]; simp [d1]
       have Hk := Lib.hid hk; clear hk Hlk
       go_wp2_with fail
       go_ret
       exact ⟨by rw [Hno.out Hk.out]; rfl, Hba.out⟩
     ·
      have c3' : ((x.seq.toNat : Int) == 0) = false := by simp; omega
      rw [show decide (x.seq.toNat ≠ 0) = true by simp [c3], Bool.true_or] at hlk
      have Hlk := Lib.hid hlk; clear hlk
      clear c1 c2 c3
      go_wp2_with fail
      go_roundw
      case rel => exact ⟨i + 1, hi4, rfl, by rw [Hstep.out, Hlk.out], Hba.out⟩
      case measure => simp [intOf]; omega
    ·
     have c2' : (64 : Int) < (x.text.size : Int) := by omega
     rw [decide_eq_false c2, Bool.and_false, Bool.false_and] at hlk
     have Hlk := Lib.hid hlk; clear hlk
     clear c1 c2
     go_wp2_with fail
     go_ret
     exact ⟨by rw [Hno.out Hlk.out]; rfl, Hba.out⟩
   ·
    have c1' : (3 : Int) < (x.code : Int) := by omega
    rw [decide_eq_false c1, Bool.false_and, Bool.false_and] at hlk
    have Hlk := Lib.hid hlk; clear hlk
    clear c1
    go_wp2_with fail
    go_ret
    exact ⟨by rw [Hno.out Hlk.out]; rfl, Hba.out⟩
  ·
   have hi4' : ¬ (i : Int) < 4 := by omega
   have he : i = 4 := by omega
   subst he
   have hr : rb = true := by rw [← Hrb.out, Hok.out]
   subst hr
   go_wp2_with fail
   go_ret
   exact ⟨rfl, Hbel.out⟩
end Go.Proofs.YtbckjgageofldaaGreat
namespace Go.Proofs.YtbckjgageofldaaGreat
open Go.RowKit Go.Shelf
attribute [local go_sem] Oper.semAt_some
def pairOkB (p : ByteArray × ByteArray) : Bool := decide (p.1.toList ≠ []) && decide (p.1.size ≤ 16) && decide (p.2.size ≤ 64)
def kvAll (l : Prs) : Bool := l.all pairOkB
theorem kvAll_app (a b : Prs) : kvAll (a ++ b) = (kvAll a && kvAll b) := List.all_append
theorem kvAll_one (p : ByteArray × ByteArray) : kvAll [p] = pairOkB p := by simp [kvAll]
def keysOkB (S : Sh) : Bool := decide (S.cnt ≤ 256) && kvAll S.kv
structure KmI (w0 w : World) (M : MacV) (P : Option Addr) : Prop where
 p : PartAt w w0.heap.size M P
 r : BoxAt w (w0.heap.size + 1) (.bool false) 4
 bel : Below w0.heap.size w0 w
theorem KmI.below {w0 w w' : World} {M : MacV} {P : Option Addr} (h : KmI w0 w M P) (hb : Below w.heap.size w w') : KmI w0 w' M P := ⟨(hb.block _ (Array.getElem?_eq_some_iff.1 h.p).1).trans h.p, h.r.below hb, h.bel.trans (hb.mono h.bel.size)⟩
theorem km_start (w : World) (M : MacV) (P : Option Addr) : KmI w ((w.alloc (.cells (macCells M P).toArray 36)).alloc (.cells #[.bool false] 4)) M P := by
 have b1 := (Below.refl w.heap.size w).alloc (Nat.le_refl _) (.cells (macCells M P).toArray 36)
 have s1 : (w.alloc (.cells (macCells M P).toArray 36)).heap.size = w.heap.size + 1 := by simp
 have v1 : PartAt (w.alloc (.cells (macCells M P).toArray 36)) w.heap.size M P := heap_alloc_new _ _
 have v3 := BoxAt.new (w.alloc (.cells (macCells M P).toArray 36)) (.bool false) 4
 have b2 := (Below.refl _ (w.alloc (.cells (macCells M P).toArray 36))).alloc (Nat.le_refl _) (.cells #[.bool false] 4)
 rw [s1] at v3
 exact ⟨(b2.block _ (Array.getElem?_eq_some_iff.1 v1).1).trans v1, v3, b1.trans (b2.mono b1.size)⟩
structure KmR (w0 w : World) : Prop where
 r : BoxAt w (w0.heap.size + 1) (.bool false) 4
 bel : Below w0.heap.size w0 w
theorem KmR.own {w0 W W' : World} {row : Option Nat} {B : Nat} (h : KmR w0 W) (hg : W.grownBy W' row) (hr : ∀ r, row = some r → B ≤ r ∧ ∃ o : Obj, W.heap[r]? = some o ∧ o.isCells = false) (hB : w0.heap.size ≤ B) : KmR w0 W' :=
 ⟨BoxAt.own (f := fun _ : Unit => .bool false) () W W' row h.r hg hr, below_own hB h.bel hg hr⟩
set_option maxRecDepth 100000 in
set_option maxHeartbeats 16000000 in
theorem keysMay_in (M : MacV) (T : Tr) (w : World) (hT : TreeAt w T) (hsM : T.sh = M.sh) (hcnt : T.cnt ≤ 1000000) (mm : Nat) (hmm : 3 ≤ mm) :
  CallsIn Fence.wide mm Tryz.prog 159 #[.agg (macCells M T.ptr).toArray] w fun e w' => e = .returned (.bool (keysOkB M.sh)) ∧ Below w.heap.size w w' := by
 obtain ⟨rb, hrb⟩ : ∃ b, keysOkB M.sh = b := ⟨_, rfl⟩
 have hrb0 : (decide (T.cnt ≤ 256) && kvAll T.kvs) = rb := by
  rw [← hrb, ← hsM]
  unfold keysOkB
  rw [← sh_cnt]
  rfl
 rw [hrb]
 clear hrb hsM
 have Hrb := Lib.hid hrb0; clear hrb0
 have hS := km_start w M T.ptr
 have HT := Lib.hid hT; clear hT
 have htr := fun (P : Option Addr) (y : World) => tree_any P y
 have Htr := Lib.hid htr; clear htr
 obtain ⟨P, hP⟩ : ∃ P, T.ptr = P := ⟨_, rfl⟩
 rw [hP] at hS ⊢
 have hlen := fun (y : World) (hy : TreeAt y T) => len_any T y hy
 rw [hP] at hlen
 have Hlen := Lib.hid hlen; clear hlen
 have HP := Lib.hid hP; clear hP
 rw [mac_eta M P]
 refine callsIn_of_wp_marks Tryz.func159 rfl trivial ?_ rfl
 simp only [Tryz.ntmps159, List.size_toArray, List.length_cons, List.length_nil, Nat.reduceAdd, Nat.reduceSub, Array.replicate_succ, Array.replicate_zero, List.push_toArray, List.append_toArray, List.nil_append, List.cons_append]
 refine wpIn_wide.2 ?_
 go_upto_region 1 with fail
 change Code.wp _ _ _ _ ((w.alloc (.cells (macCells M P).toArray 36)).alloc (.cells #[.bool false] 4))
 generalize (w.alloc (.cells (macCells M P).toArray 36)).alloc (.cells #[.bool false] 4) = w1 at *
 have HS := Lib.hid hS; clear hS
 obtain ⟨p0, p1, p14⟩ := HS.out.p.cells
 by_cases hc : T.cnt ≤ 256
 ·
  have hc' : ¬ (256 : Int) < (T.cnt : Int) := by omega
  rw [decide_eq_true hc, Bool.true_and] at Hrb
  go_wp2_with (first
   | ((with_reducible refine (Htr.out _ _).mono ?_); rintro e w2 ⟨rfl, hb2⟩; have HS2 := Lib.hid (HS.out.below hb2); have HT2 := Lib.hid (HT.out.below (HS2.out.bel)); clear hb2 HS p0 p1 p14)
   | ((with_reducible refine (Hlen.out _ HT2.out).mono ?_); rintro e w' ⟨rfl, rfl⟩)
   | ((with_reducible refine (callsIn_wide.1 (all_in 1 _ _)).mono ?_); rintro e w9 ⟨rfl, rfl⟩))
  have hba := (Below.refl w2.heap.size w2).alloc (Nat.le_refl _) (.cells #[.pointer P] 32)
  have HS3 := Lib.hid (HS2.out.below hba)
  have HT3 := Lib.hid (HT2.out.below hba)
  have hlo : T.Lo w2.heap.size := HT2.out.lo
  have hbt := BoxAt.new w2 (.pointer P) 32
  have hsz : (w2.alloc (.cells #[.pointer P] 32)).heap.size = w2.heap.size + 1 := by simp
  generalize w2.alloc (.cells #[.pointer P] 32) = w3 at *
  have hg2 : w.heap.size + 1 < w2.heap.size := HS2.out.r.lt
  generalize w2.heap.size = g2 at *
  clear HS2 HT2 hba Htr Hlen
  have hstops := all_stops (mm - 1) g2 g2 (g2 + 1) T w3 (by omega) (by omega) (by omega) (by rw [HP.out]; exact hbt.cell) HT3.out hlo
  have Hstops := Lib.hid hstops; clear hstops hlo hbt HT3
  have Hsz := Lib.hid hsz; clear hsz
  have Hg2 := Lib.hid hg2; clear hg2
  refine (wpIn_wide (n := mm)).1 ?_
  refine Range.wpIn_range (F := Fence.wide) rfl (by omega) (gf := 108) (lb := #[.pointer (some ⟨g2, 0, none⟩)]) rfl trivial (enters_of Tryz.func108 (by kernel_rfl) rfl)
   Hstops.out (fun h k => h.trans k) (keepC_b (by have := Hsz.out; omega)) (Below.refl _ _) (fun _ => rfl)
   (fun s W => kvAll s = true ∧ Below w3.heap.size w3 W) (fun c s W => c = .ret ∧ kvAll s = false ∧ KmR w W) (fun s W W' row hs hg hr => ⟨hs.1, below_own (Nat.le_refl _) hs.2 hg hr⟩) (fun c s W W' row hs hg hr => ⟨hs.1, hs.2.1, hs.2.2.own hg hr HS3.out.bel.size⟩) ⟨rfl, Below.refl _ _⟩ ?round ?done ?stop
  case round =>
   rintro l pre x V2 ⟨hpre, hi⟩ hlen
   clear Hstops hlen
   obtain ⟨xk, xv⟩ := x
   have hsn : kvAll (pre ++ [(xk, xv)]) = pairOkB (xk, xv) := by rw [kvAll_app, hpre, kvAll_one, Bool.true_and]
   have Hsn := Lib.hid hsn; clear hsn hpre
   have Hi := Lib.hid hi; clear hi
   gi_wp2
   refine ⟨KeepsFrom.refl _ _, KeepC.refl _ _ _, fun W2 hT => ?_⟩
   have hi2 := Hi.out.trans (turned_below (Nat.le_refl _) hT)
   have HL := Lib.hid (HS3.out.below hi2)
   have Hi2 := Lib.hid hi2; clear hi2 hT Hi
   have z0 := HL.out.r.cell
   have z1 := HL.out.r.frozen
   by_cases c1 : xk.toList = []
   ·
    have c1' : (xk.toList == []) = true := by rw [c1]; rfl
    have hno : pairOkB (xk, xv) = false := by unfold pairOkB; simp [c1]
    have Hno := Lib.hid hno; clear hno c1
    gi_wp2
    exact ⟨keepsFrom_set (KeepsFrom.refl _ _), rfl, by rw [Hsn.out, Hno.out], HL.out.r.set, below_set HL.out.bel (by omega)⟩
   ·
    have c1' : (xk.toList == []) = false := by simpa using c1
    by_cases c2 : xk.size ≤ 16
    ·
     have c2' : ¬ (16 : Int) < (xk.size : Int) := by omega
     by_cases c3 : xv.size ≤ 64
     ·
      have c3' : ¬ (64 : Int) < (xv.size : Int) := by omega
      have hyes : pairOkB (xk, xv) = true := by unfold pairOkB; simp [c1, c2, c3]
      have Hyes := Lib.hid hyes; clear hyes c1 c2 c3
      gi_wp2
      exact ⟨KeepsFrom.refl _ _, KeepC.refl _ _ _, by rw [Hsn.out, Hyes.out], Hi2.out⟩
     ·
      have c3' : (64 : Int) < (xv.size : Int) := by omega
      have hno : pairOkB (xk, xv) = false := by unfold pairOkB; simp [c3]
      have Hno := Lib.hid hno; clear hno c1 c2 c3
      gi_wp2
      exact ⟨keepsFrom_set (KeepsFrom.refl _ _), rfl, by rw [Hsn.out, Hno.out], HL.out.r.set, below_set HL.out.bel (by omega)⟩
    ·
     have c2' : (16 : Int) < (xk.size : Int) := by omega
     have hno : pairOkB (xk, xv) = false := by unfold pairOkB; simp [c2]
     have Hno := Lib.hid hno; clear hno c1 c2
     gi_wp2
     exact ⟨keepsFrom_set (KeepsFrom.refl _ _), rfl, by rw [Hsn.out, Hno.out], HL.out.r.set, below_set HL.out.bel (by omega)⟩
  case stop =>
   rintro E c pre V2 hE hpre ⟨rfl, hno, hR⟩ hk
   have hrb : rb = false := by
    rw [← Hrb.out]
    obtain ⟨s, hs⟩ := hpre
    rw [← hs, kvAll_app, hno, Bool.false_and]
   subst hrb
   have hlE : w.heap.size + 1 < E := by have := Hg2.out; have := Hsz.out; omega
   have HR := Lib.hid hR; clear hR
   have HkE := Lib.hid (And.intro hk hlE); clear hk hlE hE hpre hno Hstops
   refine wpIn_wide.2 ?_
   go_wp2_with fail
   have hc7 := cell_kept HR.out.r.cell (grownBy_putObj' V2 E (.deferred none)) (fun r e => by cases e; exact ⟨_, HkE.out.1, rfl⟩)
   have hb7 : Below w.heap.size w (V2.putObj E (.deferred none)) := HR.out.bel.trans (belowK_b (w := w) (Nat.le_refl _) V2 E _ _ (by have h1 := HkE.out.2; omega) HkE.out.1 rfl rfl)
   refine ⟨by simp, .inl ⟨_, _, rfl, run_takeDeferred HkE.out.1, ?_⟩⟩
   refine ⟨.bool false, ?_, rfl, hb7⟩
   simp [results, Tryz.results159, go_sem, hc7]
  case done =>
   rintro E ys W hE hS ⟨hall, hI⟩ hK
   have hrb : rb = true := by rw [← Hrb.out, ← hS, hall]
   subst hrb
   clear Hstops
   have HSw := Lib.hid (HS3.out.below hI)
   have HK := Lib.hid hK; clear hK
   have HE := Lib.hid (show w.heap.size + 1 < E by have := Hg2.out; have := Hsz.out; omega)
   clear HS3 hI hE Hsz hS hall
   have z0 := HSw.out.r.cell
   have z1 := HSw.out.r.frozen
   have hx1' : (W.setCell ⟨w.heap.size + 1, 0, none⟩ (.bool true)).heap[E]? = some (.deferred (some [])) := (Below.heap_setCell _ _ _ _ (by show E ≠ w.heap.size + 1; have := HE.out; omega)).trans HK.out
   have hbx : BoxAt (W.setCell ⟨w.heap.size + 1, 0, none⟩ (.bool true)) (w.heap.size + 1) (.bool true) 4 := HSw.out.r.set
   have hbl : Below w.heap.size w (W.setCell ⟨w.heap.size + 1, 0, none⟩ (.bool true)) := below_set HSw.out.bel (by omega)
   go_wp2_with fail
   generalize W.setCell ⟨w.heap.size + 1, 0, none⟩ (.bool true) = W6 at *
   have hc7 := cell_kept hbx.cell (grownBy_putObj' W6 E (.deferred none)) (fun r e => by cases e; exact ⟨_, hx1', rfl⟩)
   have hb7 : Below w.heap.size w (W6.putObj E (.deferred none)) := hbl.trans (belowK_b (w := w) (Nat.le_refl _) W6 E _ _ (by have h1 := HE.out; omega) hx1' rfl rfl)
   refine ⟨by simp, .inl ⟨_, _, rfl, run_takeDeferred hx1', ?_⟩⟩
   refine ⟨.bool true, ?_, rfl, hb7⟩
   simp [results, Tryz.results159, go_sem, hc7]
 ·
  have hc' : (256 : Int) < (T.cnt : Int) := by omega
  rw [decide_eq_false hc, Bool.false_and] at Hrb
  have hrb := Hrb.out
  subst hrb
  go_wp2_with (first
   | ((with_reducible refine (Htr.out _ _).mono ?_); rintro e w2 ⟨rfl, hb2⟩; have HS2 := Lib.hid (HS.out.below hb2); have HT2 := Lib.hid (HT.out.below (HS2.out.bel)); clear hb2 HS p0 p1 p14; have z0 := HS2.out.r.cell; have z1 := HS2.out.r.frozen)
   | ((with_reducible refine (Hlen.out _ HT2.out).mono ?_); rintro e w' ⟨rfl, rfl⟩))
  have hbx : BoxAt (w2.setCell ⟨w.heap.size + 1, 0, none⟩ (.bool false)) (w.heap.size + 1) (.bool false) 4 := HS2.out.r.set
  have f3 := hbx.cell
  refine ⟨.bool false, ?_, rfl, below_set HS2.out.bel (by omega)⟩
  simp [results, Tryz.results159, go_sem, f3]
theorem keysMay_any (M : MacV) (T : Tr) (w : World) (hT : TreeAt w T) (hsM : T.sh = M.sh) (hcnt : T.cnt ≤ 1000000) :
  Calls Tryz.prog 159 #[.agg (macCells M T.ptr).toArray] w fun e w' => e = .returned (.bool (keysOkB M.sh)) ∧ Below w.heap.size w w' :=
 callsIn_wide.1 (keysMay_in M T w hT hsM hcnt 3 (Nat.le_refl _))
end Go.Proofs.YtbckjgageofldaaGreat
namespace Go.Proofs.YtbckjgageofldaaGreat
open Go.RowKit
theorem layPart (ρ : Operand → Value) (x : World) (o : Oper) (h : o.op = .alloc 36) : (execOp ρ o).run Tryz.prog x = .ok (.value (RegL.ptr x.heap.size)) (x.alloc (.cells (macCells macNone none).toArray 36 (0, 0))) := by
 simp only [execOp, h]
 go_simp
 exact ⟨rfl, rfl⟩
theorem part_store {y : World} {g : Nat} {M0 : MacV} {P0 : Option Addr} (hs : PartAt y g M0 P0) {M : MacV} {P : Option Addr} {V : Value} (hV : Value.agg (macCells M P).toArray = V) :
  V.cells.size = 15 ∧ (storeCells ⟨g, 0, none⟩ V.cells.toList).run Tryz.prog y = .ok () (rowSt y g 0 (macCells M P)) := by
 subst hV
 exact ⟨rfl, store_row (macCells M P) 0 _ y hs (Nat.le_refl _) (by simp [macCells, tabCells, lastCells, Value.oneCell'])⟩
theorem partSt_at {y : World} {g : Nat} {M0 : MacV} {P0 : Option Addr} (h : PartAt y g M0 P0) (M : MacV) (P : Option Addr) : PartAt (rowSt y g 0 (macCells M P)) g M P :=
 rowSt_row (macCells M P) [] (macCells M0 P0) y h rfl
structure MkEnd (w w' : World) (gs : Nat) (M : MacV) (P : Option Addr) (X : Tr) : Prop where
 p : PartAt w' gs M P
 bel : Below w.heap.size w w'
 lo : w.heap.size ≤ gs
 tr : TreeAt w X → TreeAt w' X
set_option maxRecDepth 100000 in
set_option maxHeartbeats 16000000 in
theorem mk_reg1 (w0 : World) (g : Nat) (M : MacV) (P : Option Addr) (X : Tr) {Q : Exit → Act → World → Prop}
  (hQ : ∀ c a d v w, Q (.panic c) (Act.put a d v) w → Q (.panic c) a w) (hQ2 : ∀ c a d v w, Q (.panic c) a w → Q (.panic c) (Act.put a d v) w) (HT : Hid (TabAt w0 g M.tab))
  (u2 u4 u5 u7 u8 u9 u10 u11 u12 u13 u14 u15 u16 u17 u18 u19 u20 u21 u22 u23 u24 u25 u26 u27 u28 u29 u30 u31 u32 : Value)
  (Hk : Hid (∀ (s11 s12 s13 s14 s15 s16 : Value) (gs : Nat) (w2 : World), MkEnd w0 w2 gs M P X → Q .normal ⟨List.toArray (Value.int .u8 (M.all : Int) :: Value.int .u8 (M.mem : Int) :: u2 :: Value.pointer P :: u4 :: u5 :: Value.pointer (some ⟨g, 0, none⟩) :: u7 :: u8 :: u9 :: Value.pointer (some ⟨gs, 0, none⟩) :: s11 :: s12 :: s13 :: s14 :: s15 :: s16 :: u17 :: u18 :: u19 :: u20 :: u21 :: u22 :: u23 :: u24 :: u25 :: u26 :: u27 :: u28 :: u29 :: u30 :: u31 :: u32 :: []), []⟩ w2)) :
  Code.wp Tryz.prog (findR 1 (Tryz.f104.body.getD .skip)) Q ⟨List.toArray (Value.int .u8 (M.all : Int) :: Value.int .u8 (M.mem : Int) :: u2 :: Value.pointer P :: u4 :: u5 :: Value.pointer (some ⟨g, 0, none⟩) :: u7 :: u8 :: u9 :: u10 :: u11 :: u12 :: u13 :: u14 :: u15 :: u16 :: u17 :: u18 :: u19 :: u20 :: u21 :: u22 :: u23 :: u24 :: u25 :: u26 :: u27 :: u28 :: u29 :: u30 :: u31 :: u32 :: []), []⟩ w0 := by
 conv => arg 2; whnf
 refine (wpIn_wide (n := 1)).1 ?_
 refine RegL.wpIn_region_lays (F := Fence.wide) (KeptW w0) [⟨6, 10, .cells (macCells macNone none).toArray 36 (0, 0)⟩] [(0, 0), (1, 0), (2, 0), (3, 0), (4, 1), (5, 2), (7, 3)] (by kernel_rfl) (by kernel_rfl) (by kernel_rfl) (fun p hp => by simp only [List.mem_cons, List.not_mem_nil, or_false] at hp; rcases hp with rfl; exact lays_any layPart rfl)
  hQ hQ2 ⟨rfl, rfl, rfl, Nat.le_refl _, fun _ _ => rfl⟩ (keptW_mono w0) ?_
 clear hQ hQ2
 dsimp only [RegK.pick, List.getElem?_cons_zero, List.getElem?_cons_succ]
 obtain ⟨V1, hV1⟩ : ∃ V, Value.agg (macCells M P).toArray = V := ⟨_, rfl⟩
 have HV1 := Lib.hid hV1; clear hV1
 iterate 2 (refine RegL.reads ?_; intro K hK; go_simp; (first | refine ⟨_, fun _ _ => rfl, hK _ ?_⟩ | refine hK _ ?_); clear hK K)
 refine RegL.reads ?_
 intro K hK
 go_simp
 refine ⟨.agg (tabCells M.tab).toArray, fun y hy => ?_, hK _ ?_⟩
 ·
  rw [tab_eta]
  obtain ⟨⟨a0, a1, a2⟩, ⟨b0, b1, b2⟩, ⟨c0, c1, c2⟩, ⟨d0, d1, d2⟩⟩ := (HT.out.below' (KeptW.bel hy)).cells
  go_simp
 clear hK K
 iterate 1 (refine RegL.reads ?_; intro K hK; go_simp; (first | refine ⟨_, fun _ _ => rfl, hK _ ?_⟩ | refine hK _ ?_); clear hK K)
 refine RegL.adds (fun _ => trivial) ?_
 go_simp
 intro x hx K hK
 refine ⟨trivial, ?_⟩
 refine (callsIn_wide.2 (kvof_any P x)).mono ?_
 rintro e xc ⟨rfl, hb⟩
 have hxc : KeptW w0 xc := KeptW.mono hx hb
 refine hK (KeptW xc) _ _ hb (fun y h => KeptW.mono (KeptW.mono hx hb) (KeptW.bel h)) (keptW_mono xc) (Below.refl _ _) ?_
 clear hK K hx hb
 refine RegL.pures ?_
 intro K hK
 rw [tab_eta]
 go_simp
 have hv := HV1.out
 rw [mac_eta] at hv
 rw [hv]
 refine hK _ ?_
 clear hK K hv
 refine RegL.last ?_
 intro g' y hF hy
 have hyk : KeptW w0 y := KeptW.mono hxc (KeptW.bel hy)
 obtain ⟨hg1, hg2⟩ := hF.1 ⟨6, 10, .cells (macCells macNone none).toArray 36 (0, 0)⟩ (by simp) rfl
 have hs : PartAt y (g' 6) macNone none := hg1
 have hsl : w0.heap.size ≤ g' 6 := hg2
 simp only [RegL.putS, RegL.ptr, if_true]
 clear hF hg1 hg2
 generalize g' 6 = gs at *
 have hE : MkEnd w0 (rowSt y gs 0 (macCells M P)) gs M P X := ⟨partSt_at hs M P, rowSt_below hsl _ _ _ (KeptW.bel hyk), hsl, fun h => TreeAt.row hs (by decide) _ _ (h.below (KeptW.bel hyk))⟩
 have HE := Lib.hid hE; clear hE
 obtain ⟨q0, q1⟩ := part_store hs HV1.out
 simp only [Value.cells] at q0 q1
 clear hs
 generalize rowSt y gs 0 (macCells M P) = wE at *
 refine RegK.can_frees (fun _ => trivial) ?_
 intro K K0 hK hK0
 go_simp
 refine hK (fun _ => True) _ _ trivial ?_
 clear hK K hK0 K0 q0 q1
 refine RegK.can_nil ?_
 exact Hk.out _ _ _ _ _ _ gs wE HE.out
set_option maxRecDepth 100000 in
set_option maxHeartbeats 16000000 in
theorem mk_reg3 (w0 : World) (g : Nat)  {Q : Exit → Act → World → Prop}
  (_hQ : ∀ c a d v w, Q (.panic c) (Act.put a d v) w → Q (.panic c) a w) (HR : Hid (MacAt w0 g macNone none))
  (u0 u1 u2 u3 u4 u5 u6 u7 u9 u10 u11 u12 u13 u14 u15 u16 u17 u18 u19 u20 u21 u22 u23 u24 u25 u26 u27 u28 u29 u30 u31 u32 : Value)
  (Hk : Hid (∀ (s30 : Value) (w2 : World), w2 = rowSt w0 g 0 (macCells macNone none) → Q .normal ⟨List.toArray (u0 :: u1 :: u2 :: u3 :: u4 :: u5 :: u6 :: u7 :: Value.pointer (some ⟨g, 0, none⟩) :: Value.int .i64 4 :: u10 :: u11 :: u12 :: u13 :: u14 :: u15 :: u16 :: u17 :: u18 :: u19 :: u20 :: u21 :: u22 :: u23 :: u24 :: u25 :: u26 :: u27 :: u28 :: u29 :: s30 :: u31 :: u32 :: []), []⟩ w2)) :
  Code.wp Tryz.prog (findR 3 (Tryz.f104.body.getD .skip)) Q ⟨List.toArray (u0 :: u1 :: u2 :: u3 :: u4 :: u5 :: u6 :: u7 :: Value.pointer (some ⟨g, 0, none⟩) :: u9 :: u10 :: u11 :: u12 :: u13 :: u14 :: u15 :: u16 :: u17 :: u18 :: u19 :: u20 :: u21 :: u22 :: u23 :: u24 :: u25 :: u26 :: u27 :: u28 :: u29 :: u30 :: u31 :: u32 :: []), []⟩ w0 := by
 conv => arg 2; whnf
 clear _hQ
 obtain ⟨⟨m0, m1, m14⟩, ⟨m2, m3, m4⟩, ⟨m5, m6, m7⟩, ⟨m8, m9, m10⟩, ⟨m11, m12, m13⟩⟩ := HR.out.cells
 have q0 := HR.out.thawed 0
 have q1 := HR.out.thawed 1
 have q2 := HR.out.thawed 2
 have q3 := HR.out.thawed 3
 have q4 := HR.out.thawed 4
 have q5 := HR.out.thawed 5
 have q6 := HR.out.thawed 6
 have q7 := HR.out.thawed 7
 have q8 := HR.out.thawed 8
 have q9 := HR.out.thawed 9
 have q10 := HR.out.thawed 10
 have q11 := HR.out.thawed 11
 have q12 := HR.out.thawed 12
 have q13 := HR.out.thawed 13
 have q14 := HR.out.thawed 14
 go_wp2_with fail
 exact Hk.out _ _ rfl
set_option maxRecDepth 100000 in
set_option maxHeartbeats 16000000 in
theorem mk_reg4 (w0 : World) (g : Nat) (g5 : Nat) (M : MacV) (P : Option Addr) {Q : Exit → Act → World → Prop}
  (_hQ : ∀ c a d v w, Q (.panic c) (Act.put a d v) w → Q (.panic c) a w) (HR : Hid (MacAt w0 g macNone none)) (HP : Hid (PartAt w0 g5 M P))
  (u0 u1 u2 u3 u4 u5 u6 u7 u9 u11 u12 u13 u14 u15 u16 u17 u18 u19 u20 u21 u22 u23 u24 u25 u26 u27 u28 u29 u30 u31 u32 : Value)
  (Hk : Hid (∀ (s31 s32 : Value) (w2 : World), w2 = rowSt w0 g 0 (macCells M P) → Q .normal ⟨List.toArray (u0 :: u1 :: u2 :: u3 :: u4 :: u5 :: u6 :: u7 :: Value.pointer (some ⟨g, 0, none⟩) :: Value.int .i64 0 :: Value.pointer (some ⟨g5, 0, none⟩) :: u11 :: u12 :: u13 :: u14 :: u15 :: u16 :: u17 :: u18 :: u19 :: u20 :: u21 :: u22 :: u23 :: u24 :: u25 :: u26 :: u27 :: u28 :: u29 :: u30 :: s31 :: s32 :: []), []⟩ w2)) :
  Code.wp Tryz.prog (findR 4 (Tryz.f104.body.getD .skip)) Q ⟨List.toArray (u0 :: u1 :: u2 :: u3 :: u4 :: u5 :: u6 :: u7 :: Value.pointer (some ⟨g, 0, none⟩) :: u9 :: Value.pointer (some ⟨g5, 0, none⟩) :: u11 :: u12 :: u13 :: u14 :: u15 :: u16 :: u17 :: u18 :: u19 :: u20 :: u21 :: u22 :: u23 :: u24 :: u25 :: u26 :: u27 :: u28 :: u29 :: u30 :: u31 :: u32 :: []), []⟩ w0 := by
 conv => arg 2; whnf
 clear _hQ
 obtain ⟨⟨m0, m1, m14⟩, ⟨m2, m3, m4⟩, ⟨m5, m6, m7⟩, ⟨m8, m9, m10⟩, ⟨m11, m12, m13⟩⟩ := HR.out.cells
 have q0 := HR.out.thawed 0
 have q1 := HR.out.thawed 1
 have q2 := HR.out.thawed 2
 have q3 := HR.out.thawed 3
 have q4 := HR.out.thawed 4
 have q5 := HR.out.thawed 5
 have q6 := HR.out.thawed 6
 have q7 := HR.out.thawed 7
 have q8 := HR.out.thawed 8
 have q9 := HR.out.thawed 9
 have q10 := HR.out.thawed 10
 have q11 := HR.out.thawed 11
 have q12 := HR.out.thawed 12
 have q13 := HR.out.thawed 13
 have q14 := HR.out.thawed 14
 obtain ⟨p0, p1, p14⟩ := HP.out.cells
 obtain ⟨p2, p3, p4, p5, p6, p7, p8, p9, p10, p11, p12, p13⟩ := HP.out.tabs
 go_wp2_with fail
 exact Hk.out _ _ _ rfl
end Go.Proofs.YtbckjgageofldaaGreat
namespace Go.Proofs.YtbckjgageofldaaGreat
open Go.RowKit
def makeOk (M : MacV) : Bool := setsOk M && tabOkB M.tab 4 && keysOkB M.sh
set_option maxRecDepth 100000 in
set_option maxHeartbeats 16000000 in
theorem mk_reg2 (w0 : World) (gp : Nat) (M : MacV) (P : Option Addr) (X : Tr) {Q : Exit → Act → World → Prop}
  (_hQ : ∀ c a d v w, Q (.panic c) (Act.put a d v) w → Q (.panic c) a w) (HP : Hid (PartAt w0 gp M P)) (HX : Hid (TreeAt w0 X ∧ X.sh = M.sh ∧ X.ptr = P ∧ X.cnt ≤ 1000000)) (Hs : Hid (M.all < 256 ∧ M.mem < 256))
  (u0 u1 u2 u3 u4 u5 u6 u7 u8 u9 u11 u12 u13 u14 u15 u16 u17 u18 u19 u20 u21 u22 u23 u24 u25 u26 u27 u28 u29 u30 u31 u32 : Value)
  (Hk : Hid (∀ (s17 s18 s19 s20 s21 s22 s23 s24 s25 s26 s27 s28 : Value) (w2 : World), Below w0.heap.size w0 w2 → Q .normal ⟨List.toArray (u0 :: u1 :: u2 :: u3 :: u4 :: u5 :: u6 :: u7 :: u8 :: u9 :: Value.pointer (some ⟨gp, 0, none⟩) :: u11 :: u12 :: u13 :: u14 :: u15 :: u16 :: s17 :: s18 :: s19 :: s20 :: s21 :: s22 :: s23 :: s24 :: s25 :: s26 :: s27 :: s28 :: Value.bool (!makeOk M) :: u30 :: u31 :: u32 :: []), []⟩ w2)) :
  Code.wp Tryz.prog (findR 2 (Tryz.f104.body.getD .skip)) Q ⟨List.toArray (u0 :: u1 :: u2 :: u3 :: u4 :: u5 :: u6 :: u7 :: u8 :: u9 :: Value.pointer (some ⟨gp, 0, none⟩) :: u11 :: u12 :: u13 :: u14 :: u15 :: u16 :: u17 :: u18 :: u19 :: u20 :: u21 :: u22 :: u23 :: u24 :: u25 :: u26 :: u27 :: u28 :: u29 :: u30 :: u31 :: u32 :: []), []⟩ w0 := by
 conv => arg 2; whnf
 clear _hQ
 have hs1 := fun (y : World) => sets_any M P y Hs.out.1 Hs.out.2
 have hs2 := fun (y : World) => tableMay_any M P y
 have hs3 := fun (y : World) (hy : Below w0.heap.size w0 y) => keysMay_any M X y (HX.out.1.below hy) HX.out.2.1 HX.out.2.2.2
 rw [HX.out.2.2.1] at hs3
 obtain ⟨rb, hrb⟩ : ∃ b, makeOk M = b := ⟨_, rfl⟩
 have hrb0 := hrb
 unfold makeOk at hrb0
 rw [hrb] at Hk
 clear hrb
 have Hrb := Lib.hid hrb0; clear hrb0
 generalize setsOk M = b1 at *
 generalize tabOkB M.tab 4 = b2 at *
 generalize keysOkB M.sh = b3 at *
 rw [mac_eta M P] at hs1 hs2 hs3
 have Hs1 := Lib.hid hs1; clear hs1
 have Hs2 := Lib.hid hs2; clear hs2
 have Hs3 := Lib.hid hs3; clear hs3
 have Hcl := Lib.hid (fun (y : World) (hy : Below w0.heap.size w0 y) => (show PartAt y gp M P from (hy.block _ (Array.getElem?_eq_some_iff.1 HP.out).1).trans HP.out))
 obtain ⟨p0, p1, p14⟩ := HP.out.cells
 obtain ⟨p2, p3, p4, p5, p6, p7, p8, p9, p10, p11, p12, p13⟩ := HP.out.tabs
 cases b1 with
 | false =>
  have hrb : rb = false := by rw [← Hrb.out]; rfl
  subst hrb
  clear Hrb
  go_wp2_with (first
   | ((with_reducible refine (Hs1.out _).mono ?_); rintro e v1 ⟨rfl, hb⟩; clear Hs1; have HB1 := Lib.hid hb; clear hb p0 p1 p2 p3 p4 p5 p6 p7 p8 p9 p10 p11 p12 p13 p14; obtain ⟨p0, p1, p14⟩ := (Hcl.out _ HB1.out).cells; obtain ⟨p2, p3, p4, p5, p6, p7, p8, p9, p10, p11, p12, p13⟩ := (Hcl.out _ HB1.out).tabs))
  exact Hk.out _ _ _ _ _ _ _ _ _ _ _ _ _ HB1.out
 | true =>
 cases b2 with
 | false =>
  have hrb : rb = false := by rw [← Hrb.out]; rfl
  subst hrb
  clear Hrb
  go_wp2_with (first
   | ((with_reducible refine (Hs1.out _).mono ?_); rintro e v1 ⟨rfl, hb⟩; clear Hs1; have HB1 := Lib.hid hb; clear hb p0 p1 p2 p3 p4 p5 p6 p7 p8 p9 p10 p11 p12 p13 p14; obtain ⟨p0, p1, p14⟩ := (Hcl.out _ HB1.out).cells; obtain ⟨p2, p3, p4, p5, p6, p7, p8, p9, p10, p11, p12, p13⟩ := (Hcl.out _ HB1.out).tabs)
   | ((with_reducible refine (Hs2.out _).mono ?_); rintro e v2 ⟨rfl, hb⟩; clear Hs2; have HB2 := Lib.hid (HB1.out.trans (hb.mono HB1.out.size)); clear hb p0 p1 p2 p3 p4 p5 p6 p7 p8 p9 p10 p11 p12 p13 p14; obtain ⟨p0, p1, p14⟩ := (Hcl.out _ HB2.out).cells; obtain ⟨p2, p3, p4, p5, p6, p7, p8, p9, p10, p11, p12, p13⟩ := (Hcl.out _ HB2.out).tabs))
  exact Hk.out _ _ _ _ _ _ _ _ _ _ _ _ _ HB2.out
 | true =>
 cases b3 with
 | false =>
  have hrb : rb = false := by rw [← Hrb.out]; rfl
  subst hrb
  clear Hrb
  go_wp2_with (first
   | ((with_reducible refine (Hs1.out _).mono ?_); rintro e v1 ⟨rfl, hb⟩; clear Hs1; have HB1 := Lib.hid hb; clear hb p0 p1 p2 p3 p4 p5 p6 p7 p8 p9 p10 p11 p12 p13 p14; obtain ⟨p0, p1, p14⟩ := (Hcl.out _ HB1.out).cells; obtain ⟨p2, p3, p4, p5, p6, p7, p8, p9, p10, p11, p12, p13⟩ := (Hcl.out _ HB1.out).tabs)
   | ((with_reducible refine (Hs2.out _).mono ?_); rintro e v2 ⟨rfl, hb⟩; clear Hs2; have HB2 := Lib.hid (HB1.out.trans (hb.mono HB1.out.size)); clear hb p0 p1 p2 p3 p4 p5 p6 p7 p8 p9 p10 p11 p12 p13 p14; obtain ⟨p0, p1, p14⟩ := (Hcl.out _ HB2.out).cells; obtain ⟨p2, p3, p4, p5, p6, p7, p8, p9, p10, p11, p12, p13⟩ := (Hcl.out _ HB2.out).tabs)
   | ((with_reducible refine (Hs3.out _ HB2.out).mono ?_); rintro e v3 ⟨rfl, hb⟩; clear Hs3; have HB3 := Lib.hid (HB2.out.trans (hb.mono HB2.out.size)); clear hb))
  exact Hk.out _ _ _ _ _ _ _ _ _ _ _ _ _ HB3.out
 | true =>
  have hrb : rb = true := by rw [← Hrb.out]; rfl
  subst hrb
  clear Hrb
  go_wp2_with (first
   | ((with_reducible refine (Hs1.out _).mono ?_); rintro e v1 ⟨rfl, hb⟩; clear Hs1; have HB1 := Lib.hid hb; clear hb p0 p1 p2 p3 p4 p5 p6 p7 p8 p9 p10 p11 p12 p13 p14; obtain ⟨p0, p1, p14⟩ := (Hcl.out _ HB1.out).cells; obtain ⟨p2, p3, p4, p5, p6, p7, p8, p9, p10, p11, p12, p13⟩ := (Hcl.out _ HB1.out).tabs)
   | ((with_reducible refine (Hs2.out _).mono ?_); rintro e v2 ⟨rfl, hb⟩; clear Hs2; have HB2 := Lib.hid (HB1.out.trans (hb.mono HB1.out.size)); clear hb p0 p1 p2 p3 p4 p5 p6 p7 p8 p9 p10 p11 p12 p13 p14; obtain ⟨p0, p1, p14⟩ := (Hcl.out _ HB2.out).cells; obtain ⟨p2, p3, p4, p5, p6, p7, p8, p9, p10, p11, p12, p13⟩ := (Hcl.out _ HB2.out).tabs)
   | ((with_reducible refine (Hs3.out _ HB2.out).mono ?_); rintro e v3 ⟨rfl, hb⟩; clear Hs3; have HB3 := Lib.hid (HB2.out.trans (hb.mono HB2.out.size)); clear hb))
  exact Hk.out _ _ _ _ _ _ _ _ _ _ _ _ _ HB3.out
end Go.Proofs.YtbckjgageofldaaGreat
