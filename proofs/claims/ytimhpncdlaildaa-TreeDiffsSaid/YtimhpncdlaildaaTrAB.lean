/- The law TreeDiffs (under way). No condition. -/
import Derived.Test.YtimhpncdlaildaaTrU
import Derived.Test.YtimhpncdlaildaaTrK
import Derived.Test.YtimhpncdlaildaaTrS
import Derived.Test.YtimhpncdlaildaaTrZ
import Derived.Test.YtimhpncdlaildaaTrAA
import Derived.Test.YtimhpncdlaildaaRegF
import Derived.Test.YtimhpncdlaildaaRange
import Derived.LoopIn
namespace Go.Proofs.Ytimhpncdlaildaa
open Go.RowKit Go.Shelf
attribute [local go_sem] Oper.semAt_some

/-- An act on a tree and on its pairs. -/
theorem ent_next {wr w3 w4 : World} {m : Nat} {T X : Tr} {A A' : Option Addr} {n c n' c' : Nat} {x : TAct} (hcur : EntOk wr m ⟨T, A, n, c⟩) (hk : x.key.size ≤ 100)
    (hx : ActPost wr.heap.size (sameB x T) T (stepSh x T.sh) wr w3 X) (hb4 : Below w3.heap.size w3 w4) (hp4 : PairsAt w4 A' n' (saysL x T.kvs)) (hok4 : POk A' n' c') (hty4 : PTy w4 A') : EntOk w4 (m + 1) ⟨X, A', n', c'⟩ := by
  have hXkv : X.kvs = saysL x T.kvs := by
    show X.sh.kv = _
    rw [hx.shp, step_kv hcur.asc]
    rfl
  refine ⟨hx.at_.below hb4, by rw [← hXkv] at hp4; exact hp4, hok4, hty4, by rw [hx.shp]; exact asc_step hcur.asc _, by rw [hx.shp]; exact heap_step hcur.heap hcur.asc _, ?_, ?_⟩
  · have h1 := hx.num
    have h2 := hcur.few
    simp only at h2 ⊢
    omega
  · rw [show (Ent.mk X A' n' c').T.kvs = saysL x T.kvs from hXkv]
    exact says_keys hcur.keys hk
theorem ent_few {w : World} {m : Nat} {T : Tr} {A : Option Addr} {n c : Nat} (h : EntOk w m ⟨T, A, n, c⟩) : n ≤ m := by
  have h1 := h.pairs.hlen
  have h2 := h.few
  have h3 := sh_cnt T
  rw [cnt_kv] at h3
  simp only at h1 h2
  unfold Tr.kvs at h1
  omega

theorem dseq_some (w : World) (fn : Fn) (a b : Array Value) : (binOp .eql 78 (.func fn a b) .nilFunc).run Try.prog w = .ok (.bool false) w := by
  have h : ∀ d : Nat, (Op.equalIn (d + 1) 78 (.func fn a b) .nilFunc).run Try.prog w = .ok false w := fun d => by
    simp [Op.equalIn, run_underlying Try.underlying78]
  have h2 : (Op.equal 78 (.func fn a b) .nilFunc).run Try.prog w = .ok false w := h 9999
  simp only [binOp]
  simp only [Sem.run_bind, h2, Result.andThen_ok, Sem.run_pure]
theorem turned_cells {B l q : Nat} {W W' : World} {cs : Array Value} {t : TypeId} {f : Nat × Nat} (h : Range.Turned B l W W') (hq : W.heap[q]? = some (.cells cs t f)) : W'.heap[q]? = some (.cells cs t f) := by
  obtain ⟨_, o, o', h2, h3, _, rfl⟩ := h
  have hne : q ≠ l := fun e => by subst e; rw [hq] at h2; cases h2; cases h3
  exact (World.putObj_heap_other hne).trans hq
theorem turned_below {B l n : Nat} {W W' : World} (hn : n ≤ B) (h : Range.Turned B l W W') : Below n W W' := by
  obtain ⟨h1, o, o', h2, _, _, rfl⟩ := h
  have hg := grownBy_putObj' W l o'
  exact ⟨hg.os, hg.tape, hg.output, hg.size, fun q hq => World.putObj_heap_other (by omega)⟩
theorem keepsFrom_below {B : Nat} {W W' : World} (h : Below W.heap.size W W') : KeepsFrom B W W' := ⟨h.size, fun k o _ hk _ => (h.block k (Array.getElem?_eq_some_iff.1 hk).1).trans hk⟩
theorem tl_inj {a b : ByteArray} (h : a.toList = b.toList) : a = b := by
  rw [ByteArray.toList_eq, ByteArray.toList_eq] at h
  cases a; cases b
  simpa using h
theorem keepsFrom_set {B : Nat} {W W3 : World} {a : Addr} {v : Value} (h : KeepsFrom B W W3) : KeepsFrom B W (W3.setCell a v) := h.trans ((KeepsOthers.setCell _ _ _).from B)
theorem keepC_turned {n₀ Bl B l : Nat} {W W' : World} (hn : n₀ ≤ B) (h : Range.Turned B l W W') : KeepC n₀ Bl W W' := ⟨turned_below hn h, fun _ _ _ _ _ e => turned_cells h e⟩
/-- What TreeDiffs' loop has between two rounds. -/
structure DiffsI (w0 : World) (C : Option Addr) (r g : Nat) (pre : List Chg) (W : World) : Prop where
  bw : BoxAt W w0.heap.size (.slice C r g) 75
  bi : BoxAt W (w0.heap.size + 1) (.int .i64 (pre.length : Int)) 3
  bel : Below w0.heap.size w0 W
theorem DiffsI.own {w0 : World} {C : Option Addr} {r g B0 : Nat} (hB : w0.heap.size ≤ B0) : OwnFrom B0 (DiffsI w0 C r g) := fun s W W' row hs hg hr =>
  ⟨BoxAt.own (f := fun _ => _) s W W' row hs.bw hg hr, BoxAt.own (f := fun (s : List Chg) => .int .i64 (s.length : Int)) s W W' row hs.bi hg hr,
    ⟨hg.os.trans hs.bel.os, hg.tape.trans hs.bel.tape, hg.output.trans hs.bel.output, Nat.le_trans hs.bel.size hg.size, fun q hq => (hg.block q (Nat.lt_of_lt_of_le hq hs.bel.size) (fun e => by have := (hr q e.symm).1; omega)).trans (hs.bel.block q hq)⟩⟩
theorem chgs_get {w : World} {A : Option Addr} {n i : Nat} {L : List Chg} {c : Chg} (h : ChgsAt w A n L) (hi : L[i]? = some c) :
    ∃ b o, A = some ⟨b, o, none⟩ ∧ b < w.heap.size ∧ w.cell? ⟨b, o + i * 5, none⟩ = some (.string c.key) ∧ w.cell? ⟨b, o + i * 5 + 1, none⟩ = some (.string c.old) ∧ w.cell? ⟨b, o + i * 5 + 2, none⟩ = some (.string c.new) ∧
      w.cell? ⟨b, o + i * 5 + 3, none⟩ = some (.bool c.had) ∧ w.cell? ⟨b, o + i * 5 + 4, none⟩ = some (.bool c.has) := by
  obtain ⟨b, o, h1, h2, h3⟩ := h.cells i _ hi
  exact ⟨b, o, h1, h2, h3 0 _ rfl, h3 1 _ rfl, h3 2 _ rfl, h3 3 _ rfl, h3 4 _ rfl⟩

set_option maxRecDepth 100000 in
set_option maxHeartbeats 4000000 in
theorem treeDiffs_in (a0 : Option Addr) (l0 c0 : Nat) (z0 : List TAct) (a1 : Option Addr) (l1 c1 : Nat) (z1 : List TAct) (a2 : Option Addr) (l2 c2 : Nat) (z2 : List TAct) (w : World)
    (h0 : TActsAt w a0 l0 z0) (h1 : TActsAt w a1 l1 z1) (h2 : TActsAt w a2 l2 z2) (mm : Nat) (hmm : 3 ≤ mm) :
    CallsIn Fence.wide mm Try.prog 9 #[.slice a0 l0 c0, .slice a1 l1 c1, .slice a2 l2 c2] w fun e w' => e = .returned (.bool true) ∧ Below w.heap.size w w' := by
  have hg0 := fun (y : World) (hy : Below w.heap.size w y) => tgreat_any a0 l0 c0 z0 y (h0.below hy)
  have hg1 := fun (y : World) (hy : Below w.heap.size w y) => tgreat_any a1 l1 c1 z1 y (h1.below hy)
  have hg2 := fun (y : World) (hy : Below w.heap.size w y) => tgreat_any a2 l2 c2 z2 y (h2.below hy)
  have Hg0 := Lib.hid hg0; clear hg0
  have Hg1 := Lib.hid hg1; clear hg1
  have Hg2 := Lib.hid hg2; clear hg2
  have H0 := Lib.hid h0; clear h0
  have H1 := Lib.hid h1; clear h1
  have H2 := Lib.hid h2; clear h2
  refine callsIn_of_wp_marks Try.func9 rfl trivial ?_ rfl
  simp only [Try.ntmps9, List.size_toArray, List.length_cons, List.length_nil, Nat.reduceAdd, Nat.reduceSub, Array.replicate_succ, Array.replicate_zero, List.push_toArray, List.append_toArray, List.nil_append, List.cons_append]
  refine wpIn_wide.2 ?_
  go_upto_region 1 with fail
  have hbox := BoxAt.new w (.bool false) 4
  have hbel := (Below.refl w.heap.size w).alloc (Nat.le_refl _) (.cells #[.bool false] 4)
  generalize w.alloc (.cells #[.bool false] 4) = w1 at *
  have hb0 := Hg0.out w1 hbel
  have hb1 := Hg1.out w1 hbel
  have hb2 := Hg2.out w1 hbel
  have Hbox := Lib.hid hbox; clear hbox
  have Hbel := Lib.hid hbel; clear hbel
  clear Hg0 Hg1 Hg2
  by_cases hgr : (tgreatS z0 || tgreatS z1 || tgreatS z2) = true
  · obtain ⟨x0, e0⟩ : ∃ x, tgreatS z0 = x := ⟨_, rfl⟩
    obtain ⟨x1, e1⟩ : ∃ x, tgreatS z1 = x := ⟨_, rfl⟩
    obtain ⟨x2, e2⟩ : ∃ x, tgreatS z2 = x := ⟨_, rfl⟩
    rw [e0, e1, e2] at hgr
    rw [e0] at hb0
    rw [e1] at hb1
    rw [e2] at hb2
    clear e0 e1 e2
    have Hb0 := Lib.hid hb0; clear hb0
    have Hb1 := Lib.hid hb1; clear hb1
    have Hb2 := Lib.hid hb2; clear hb2
    have hor : (x0 = true) ∨ (x0 = false ∧ x1 = true) ∨ (x0 = false ∧ x1 = false ∧ x2 = true) := by
      cases x0 <;> cases x1 <;> cases x2 <;> simp_all
    clear hgr
    rcases hor with rfl | ⟨rfl, rfl⟩ | ⟨rfl, rfl, rfl⟩ <;>
    · go_upto_region 2 with (first
        | ((with_reducible refine Hb0.out.mono ?_); rintro e w' ⟨rfl, rfl⟩)
        | ((with_reducible refine Hb1.out.mono ?_); rintro e w' ⟨rfl, rfl⟩)
        | ((with_reducible refine Hb2.out.mono ?_); rintro e w' ⟨rfl, rfl⟩))
      go_wp2_with ((with_reducible refine (trWakes_any w1).mono ?_); rintro e w3 ⟨rfl, hw⟩; have f0 := (Hbox.out.below hw).cell; have f1 := (Hbox.out.below hw).frozen)
      have f2 := (Hbox.out.below hw).set (v' := .bool true)
      have hb3 : Below w.heap.size w (w3.setCell ⟨w.heap.size, 0, none⟩ (.bool true)) := below_set (Hbel.out.trans (hw.mono Hbel.out.size)) (Nat.le_refl _)
      have f3 := f2.cell
      refine ⟨.bool true, ?_, rfl, hb3⟩
      simp [results, Try.results9, go_sem, f3]
  · have hg0 : tgreatS z0 = false := by cases h : tgreatS z0 <;> simp_all
    have hg1 : tgreatS z1 = false := by cases h : tgreatS z1 <;> simp_all
    have hg2 : tgreatS z2 = false := by cases h : tgreatS z2 <;> simp_all
    rw [hg0] at hb0
    rw [hg1] at hb1
    rw [hg2] at hb2
    obtain ⟨hlen0, hsz0⟩ := tgreat_ok hg0
    obtain ⟨hlen1, hsz1⟩ := tgreat_ok hg1
    obtain ⟨hlen2, hsz2⟩ := tgreat_ok hg2
    rw [H0.out.hlen] at hlen0 hsz0
    rw [H1.out.hlen] at hlen1 hsz1
    rw [H2.out.hlen] at hlen2 hsz2
    have Hsz0 := Lib.hid hsz0; clear hsz0
    have Hsz1 := Lib.hid hsz1; clear hsz1
    have Hsz2 := Lib.hid hsz2; clear hsz2
    have Hb0 := Lib.hid hb0; clear hb0
    have Hb1 := Lib.hid hb1; clear hb1
    have Hb2 := Lib.hid hb2; clear hb2
    clear hg0 hg1 hg2 hgr
    go_upto_region 3 with (first
        | ((with_reducible refine Hb0.out.mono ?_); clear Hb0; rintro e w' ⟨rfl, rfl⟩)
        | ((with_reducible refine Hb1.out.mono ?_); clear Hb1; rintro e w' ⟨rfl, rfl⟩)
        | ((with_reducible refine Hb2.out.mono ?_); clear Hb2; rintro e w' ⟨rfl, rfl⟩))
    go_wp2_with fail
    go_loopw [7, 8, 9] (fun sa sb sc wx => ∃ i T A n c, i ≤ l0 ∧ sc = .int .i64 (i : Int) ∧ sa = .pointer T.ptr ∧ sb = .slice A n c ∧ EntOk wx (i) ⟨T, A, n, c⟩ ∧ Below w1.heap.size w1 wx) (fun _ _ sc _ => l0 - (intOf sc).toNat)
    case atStart => exact ⟨0, .nil, none, 0, 0, by omega, rfl, rfl, rfl, EntOk.nil _, Below.refl _ _⟩
    case round =>
      obtain ⟨i0, T0, A0, n0, k0, hi, rfl, rfl, rfl, hcur, hbr⟩ := hrel
      have Hcurwa := Lib.hid hcur; clear hcur
      have Hbrwa := Lib.hid hbr; clear hbr
      generalize wr = wa at *
      by_cases hlt : i0 < l0
      · have hlt' : (i0 : Int) < (l0 : Int) := by omega
        obtain ⟨b, o, rfl, hbl, e0, e1, e2⟩ := tacts_cells (H0.out.below (Hbel.out.trans (Hbrwa.out.mono Hbel.out.size))) hlt
        have hsucc := tsucc (n := i0) (by omega)
        have hk := (Hsz0.out i0 hlt).1
        have hcs : ∀ y, Below wa.heap.size wa y → y.cell? ⟨b, o + i0 * 3, none⟩ = some (.int .u8 ((z0.getD i0 default).act.toNat : Int)) ∧ y.cell? ⟨b, o + i0 * 3 + 1, none⟩ = some (.string (z0.getD i0 default).key) ∧ y.cell? ⟨b, o + i0 * 3 + 2, none⟩ = some (.string (z0.getD i0 default).val) :=
          fun y hy => ⟨(hy.cell (p := ⟨b, o + i0 * 3, none⟩) hbl).trans e0, (hy.cell (p := ⟨b, o + i0 * 3 + 1, none⟩) hbl).trans e1, (hy.cell (p := ⟨b, o + i0 * 3 + 2, none⟩) hbl).trans e2⟩
        generalize z0.getD i0 default = x at *
        have hfew := ent_few Hcurwa.out
        have hdoes := does_any x (by unfold maxLen; omega) T0 wa.heap.size wa (Nat.le_refl _) Hcurwa.out.tree.lo Hcurwa.out.tree (by have := Hcurwa.out.few; simp only at this; omega)
        have hsays := fun (y : World) (hy : Below wa.heap.size wa y) => says_any x A0 n0 k0 T0.kvs y (Hcurwa.out.pairs.below hy) Hcurwa.out.ok (Hcurwa.out.ty.below hy) Hcurwa.out.asc (by omega)
        have Hnext := Lib.hid (fun (X : Tr) (w3 w4 : World) (A' : Option Addr) (n' c' : Nat) => ent_next (X := X) (w3 := w3) (w4 := w4) (A' := A') (n' := n') (c' := c') Hcurwa.out hk)
        obtain ⟨x0, x1, x2⟩ := x
        simp only at e0 e1 e2 hk hcs
        have Hdoes := Lib.hid (show Calls Try.prog 38 #[.pointer T0.ptr, .agg #[.int .u8 (x0.toNat : Int), .string x1, .string x2]] wa _ from hdoes); clear hdoes
        have Hsays := Lib.hid (fun (y : World) (hy : Below wa.heap.size wa y) => show Calls Try.prog 39 #[.slice A0 n0 k0, .agg #[.int .u8 (x0.toNat : Int), .string x1, .string x2]] y _ from hsays y hy); clear hsays
        have Hcs := Lib.hid hcs; clear hcs
        go_upto_region 9 with ((with_reducible refine Hdoes.out.mono ?_); rintro e w3 ⟨X, rfl, hx⟩; have Hx := Lib.hid hx; clear hx)
        clear e0 e1 e2 Hdoes
        obtain ⟨e0, e1, e2⟩ := Hcs.out w3 Hx.out.bel
        have Hs3 := Lib.hid (Hsays.out w3 Hx.out.bel); clear Hsays
        go_upto_region 7 with ((with_reducible refine Hs3.out.mono ?_); rintro e w4 ⟨A', n', c', rfl, hp4, hb4, hok4, hty4⟩; have Hent := Lib.hid (Hnext.out X w3 w4 A' n' c' Hx.out hb4 hp4 hok4 hty4); have Hb4 := Lib.hid hb4; clear hb4 hp4 hok4 hty4)
        clear e0 e1 e2 Hs3
        go_wp2_with fail
        go_roundw
        case rel => exact ⟨i0 + 1, X, A', n', c', hlt, rfl, rfl, rfl, Hent.out, Hbrwa.out.trans ((Hx.out.bel.trans (Hb4.out.mono Hx.out.bel.size)).mono Hbrwa.out.size)⟩
        case measure => simp [intOf]; omega
      · have hlt' : ¬ (i0 : Int) < (l0 : Int) := by omega
        obtain rfl : i0 = l0 := by omega
        clear hlt hlt' hi
        have Hbel2 := Lib.hid (Hbel.out.trans (Hbrwa.out.mono Hbel.out.size))
        go_wp2_with fail
        go_loopw [10, 12, 14] (fun sa sb sc wx => ∃ i T A n c, i ≤ l1 ∧ sc = .int .i64 (i : Int) ∧ sa = .pointer T.ptr ∧ sb = .slice A n c ∧ EntOk wx (i0 + i) ⟨T, A, n, c⟩ ∧ Below wa.heap.size wa wx) (fun _ _ sc _ => l1 - (intOf sc).toNat)
        case atStart => exact ⟨0, T0, A0, n0, k0, by omega, rfl, rfl, rfl, Hcurwa.out, Below.refl _ _⟩
        case round =>
          obtain ⟨i1, T1, A1, n1, k1, hi, rfl, rfl, rfl, hcur, hbr⟩ := hrel
          have Hcurwb := Lib.hid hcur; clear hcur
          have Hbrwb := Lib.hid hbr; clear hbr
          generalize wr = wb at *
          by_cases hlt : i1 < l1
          · have hlt' : (i1 : Int) < (l1 : Int) := by omega
            obtain ⟨b, o, rfl, hbl, e0, e1, e2⟩ := tacts_cells (H1.out.below (Hbel2.out.trans (Hbrwb.out.mono Hbel2.out.size))) hlt
            have hsucc := tsucc (n := i1) (by omega)
            have hk := (Hsz1.out i1 hlt).1
            have hcs : ∀ y, Below wb.heap.size wb y → y.cell? ⟨b, o + i1 * 3, none⟩ = some (.int .u8 ((z1.getD i1 default).act.toNat : Int)) ∧ y.cell? ⟨b, o + i1 * 3 + 1, none⟩ = some (.string (z1.getD i1 default).key) ∧ y.cell? ⟨b, o + i1 * 3 + 2, none⟩ = some (.string (z1.getD i1 default).val) :=
              fun y hy => ⟨(hy.cell (p := ⟨b, o + i1 * 3, none⟩) hbl).trans e0, (hy.cell (p := ⟨b, o + i1 * 3 + 1, none⟩) hbl).trans e1, (hy.cell (p := ⟨b, o + i1 * 3 + 2, none⟩) hbl).trans e2⟩
            generalize z1.getD i1 default = x at *
            have hfew := ent_few Hcurwb.out
            have hdoes := does_any x (by unfold maxLen; omega) T1 wb.heap.size wb (Nat.le_refl _) Hcurwb.out.tree.lo Hcurwb.out.tree (by have := Hcurwb.out.few; simp only at this; omega)
            have hsays := fun (y : World) (hy : Below wb.heap.size wb y) => says_any x A1 n1 k1 T1.kvs y (Hcurwb.out.pairs.below hy) Hcurwb.out.ok (Hcurwb.out.ty.below hy) Hcurwb.out.asc (by omega)
            have Hnext := Lib.hid (fun (X : Tr) (w3 w4 : World) (A' : Option Addr) (n' c' : Nat) => ent_next (X := X) (w3 := w3) (w4 := w4) (A' := A') (n' := n') (c' := c') Hcurwb.out hk)
            obtain ⟨x0, x1, x2⟩ := x
            simp only at e0 e1 e2 hk hcs
            have Hdoes := Lib.hid (show Calls Try.prog 38 #[.pointer T1.ptr, .agg #[.int .u8 (x0.toNat : Int), .string x1, .string x2]] wb _ from hdoes); clear hdoes
            have Hsays := Lib.hid (fun (y : World) (hy : Below wb.heap.size wb y) => show Calls Try.prog 39 #[.slice A1 n1 k1, .agg #[.int .u8 (x0.toNat : Int), .string x1, .string x2]] y _ from hsays y hy); clear hsays
            have Hcs := Lib.hid hcs; clear hcs
            go_upto_region 16 with ((with_reducible refine Hdoes.out.mono ?_); rintro e w3 ⟨X, rfl, hx⟩; have Hx := Lib.hid hx; clear hx)
            clear e0 e1 e2 Hdoes
            obtain ⟨e0, e1, e2⟩ := Hcs.out w3 Hx.out.bel
            have Hs3 := Lib.hid (Hsays.out w3 Hx.out.bel); clear Hsays
            go_upto_region 14 with ((with_reducible refine Hs3.out.mono ?_); rintro e w4 ⟨A', n', c', rfl, hp4, hb4, hok4, hty4⟩; have Hent := Lib.hid (Hnext.out X w3 w4 A' n' c' Hx.out hb4 hp4 hok4 hty4); have Hb4 := Lib.hid hb4; clear hb4 hp4 hok4 hty4)
            clear e0 e1 e2 Hs3
            go_wp2_with fail
            go_roundw
            case rel => exact ⟨i1 + 1, X, A', n', c', hlt, rfl, rfl, rfl, Hent.out, Hbrwb.out.trans ((Hx.out.bel.trans (Hb4.out.mono Hx.out.bel.size)).mono Hbrwb.out.size)⟩
            case measure => simp [intOf]; omega
          · have hlt' : ¬ (i1 : Int) < (l1 : Int) := by omega
            obtain rfl : i1 = l1 := by omega
            clear hlt hlt' hi
            have Hbel3 := Lib.hid (Hbel2.out.trans (Hbrwb.out.mono Hbel2.out.size))
            go_wp2_with fail
            go_loopw [11, 13, 15] (fun sa sb sc wx => ∃ i T A n c, i ≤ l2 ∧ sc = .int .i64 (i : Int) ∧ sa = .pointer T.ptr ∧ sb = .slice A n c ∧ EntOk wx (i0 + i) ⟨T, A, n, c⟩ ∧ Below wb.heap.size wb wx) (fun _ _ sc _ => l2 - (intOf sc).toNat)
            case atStart => exact ⟨0, T0, A0, n0, k0, by omega, rfl, rfl, rfl, Hcurwa.out.below Hbrwb.out, Below.refl _ _⟩
            case round =>
              obtain ⟨i2, T2, A2, n2, k2, hi, rfl, rfl, rfl, hcur, hbr⟩ := hrel
              have Hcurwc := Lib.hid hcur; clear hcur
              have Hbrwc := Lib.hid hbr; clear hbr
              generalize wr = wc at *
              by_cases hlt : i2 < l2
              · have hlt' : (i2 : Int) < (l2 : Int) := by omega
                obtain ⟨b, o, rfl, hbl, e0, e1, e2⟩ := tacts_cells (H2.out.below (Hbel3.out.trans (Hbrwc.out.mono Hbel3.out.size))) hlt
                have hsucc := tsucc (n := i2) (by omega)
                have hk := (Hsz2.out i2 hlt).1
                have hcs : ∀ y, Below wc.heap.size wc y → y.cell? ⟨b, o + i2 * 3, none⟩ = some (.int .u8 ((z2.getD i2 default).act.toNat : Int)) ∧ y.cell? ⟨b, o + i2 * 3 + 1, none⟩ = some (.string (z2.getD i2 default).key) ∧ y.cell? ⟨b, o + i2 * 3 + 2, none⟩ = some (.string (z2.getD i2 default).val) :=
                  fun y hy => ⟨(hy.cell (p := ⟨b, o + i2 * 3, none⟩) hbl).trans e0, (hy.cell (p := ⟨b, o + i2 * 3 + 1, none⟩) hbl).trans e1, (hy.cell (p := ⟨b, o + i2 * 3 + 2, none⟩) hbl).trans e2⟩
                generalize z2.getD i2 default = x at *
                have hfew := ent_few Hcurwc.out
                have hdoes := does_any x (by unfold maxLen; omega) T2 wc.heap.size wc (Nat.le_refl _) Hcurwc.out.tree.lo Hcurwc.out.tree (by have := Hcurwc.out.few; simp only at this; omega)
                have hsays := fun (y : World) (hy : Below wc.heap.size wc y) => says_any x A2 n2 k2 T2.kvs y (Hcurwc.out.pairs.below hy) Hcurwc.out.ok (Hcurwc.out.ty.below hy) Hcurwc.out.asc (by omega)
                have Hnext := Lib.hid (fun (X : Tr) (w3 w4 : World) (A' : Option Addr) (n' c' : Nat) => ent_next (X := X) (w3 := w3) (w4 := w4) (A' := A') (n' := n') (c' := c') Hcurwc.out hk)
                obtain ⟨x0, x1, x2⟩ := x
                simp only at e0 e1 e2 hk hcs
                have Hdoes := Lib.hid (show Calls Try.prog 38 #[.pointer T2.ptr, .agg #[.int .u8 (x0.toNat : Int), .string x1, .string x2]] wc _ from hdoes); clear hdoes
                have Hsays := Lib.hid (fun (y : World) (hy : Below wc.heap.size wc y) => show Calls Try.prog 39 #[.slice A2 n2 k2, .agg #[.int .u8 (x0.toNat : Int), .string x1, .string x2]] y _ from hsays y hy); clear hsays
                have Hcs := Lib.hid hcs; clear hcs
                go_upto_region 21 with ((with_reducible refine Hdoes.out.mono ?_); rintro e w3 ⟨X, rfl, hx⟩; have Hx := Lib.hid hx; clear hx)
                clear e0 e1 e2 Hdoes
                obtain ⟨e0, e1, e2⟩ := Hcs.out w3 Hx.out.bel
                have Hs3 := Lib.hid (Hsays.out w3 Hx.out.bel); clear Hsays
                go_upto_region 19 with ((with_reducible refine Hs3.out.mono ?_); rintro e w4 ⟨A', n', c', rfl, hp4, hb4, hok4, hty4⟩; have Hent := Lib.hid (Hnext.out X w3 w4 A' n' c' Hx.out hb4 hp4 hok4 hty4); have Hb4 := Lib.hid hb4; clear hb4 hp4 hok4 hty4)
                clear e0 e1 e2 Hs3
                go_wp2_with fail
                go_roundw
                case rel => exact ⟨i2 + 1, X, A', n', c', hlt, rfl, rfl, rfl, Hent.out, Hbrwc.out.trans ((Hx.out.bel.trans (Hb4.out.mono Hx.out.bel.size)).mono Hbrwc.out.size)⟩
                case measure => simp [intOf]; omega
              · have hlt' : ¬ (i2 : Int) < (l2 : Int) := by omega
                obtain rfl : i2 = l2 := by omega
                clear hlt hlt' hi
                have Hbel4 := Lib.hid (Hbel3.out.trans (Hbrwc.out.mono Hbel3.out.size))
                have He1 := Lib.hid (Hcurwb.out.below Hbrwc.out)
                have Hbox4 := Lib.hid (Hbox.out.below (Hbrwa.out.trans ((Hbrwb.out.trans (Hbrwc.out.mono Hbrwb.out.size)).mono Hbrwa.out.size)))
                clear Hcurwb Hcurwa Hbrwa Hbrwb Hbrwc H0 H1 H2 Hsz0 Hsz1 Hsz2 Hbox Hbel Hbel2 Hbel3
                have hn1 : n1 ≤ 600 := by have := ent_few He1.out; omega
                have hn2 : n2 ≤ 600 := by have := ent_few Hcurwc.out; omega
                have Hd10 := Lib.hid (diff10_any A1 A2 n1 k1 n2 k2 T1.kvs T2.kvs wc He1.out.pairs Hcurwc.out.pairs (by omega) (by omega))
                go_upto_region 24 with ((with_reducible refine Hd10.out.mono ?_); rintro e wd ⟨C, r, g, rfl, hch, hbd⟩; have Hch := Lib.hid hch; have Hbd := Lib.hid hbd; clear hch hbd Hd10)
                have hbw := (BoxAt.new wd (.slice C r g) 75).below ((Below.refl _ _).alloc (Nat.le_refl _) (.cells #[.int .i64 0] 3))
                have hbi := BoxAt.new (wd.alloc (.cells #[.slice C r g] 75)) (.int .i64 0) 3
                rw [World.size_alloc] at hbi
                have hb5 : Below wd.heap.size wd ((wd.alloc (.cells #[.slice C r g] 75)).alloc (.cells #[.int .i64 0] 3)) := ((Below.refl _ _).alloc (Nat.le_refl _) _).alloc (by simp) _
                have hs5 : ((wd.alloc (.cells #[.slice C r g] 75)).alloc (.cells #[.int .i64 0] 3)).heap.size = wd.heap.size + 2 := by simp
                generalize (wd.alloc (.cells #[.slice C r g] 75)).alloc (.cells #[.int .i64 0] 3) = w5 at *
                obtain ⟨P1, hP1⟩ : ∃ P, T1.ptr = P := ⟨_, rfl⟩
                obtain ⟨P2, hP2⟩ : ∃ P, T2.ptr = P := ⟨_, rfl⟩
                rw [hP1, hP2]
                have HP1 := Lib.hid hP1; clear hP1
                have HP2 := Lib.hid hP2; clear hP2
                have Hbw := Lib.hid hbw; clear hbw
                have Hbi := Lib.hid hbi; clear hbi
                have Hb5 := Lib.hid hb5; clear hb5
                have Hdf := Lib.hid (callsIn_wide.1 (diff_in 1 P1 P2 w5))
                have hseq := dseq_some
                go_wp2_with ((with_reducible refine Hdf.out.mono ?_); rintro e w' ⟨rfl, rfl⟩)
                clear hseq
                have hA5 : TreeAt w5 T1 := He1.out.tree.below (Hbd.out.trans (Hb5.out.mono Hbd.out.size))
                have hB5 : TreeAt w5 T2 := Hcurwc.out.tree.below (Hbd.out.trans (Hb5.out.mono Hbd.out.size))
                have hu1 : Below w5.heap.size w5 ((w5.alloc (.cells #[.pointer P1] 58)).alloc (.cells #[.pointer P2] 58)) := ((Below.refl _ _).alloc (Nat.le_refl _) _).alloc (by simp) _
                have hs6 : ((w5.alloc (.cells #[.pointer P1] 58)).alloc (.cells #[.pointer P2] 58)).heap.size = wd.heap.size + 4 := by simp [hs5]
                have hba := (BoxAt.new w5 (.pointer P1) 58).below ((Below.refl _ _).alloc (Nat.le_refl _) (.cells #[.pointer P2] 58))
                have hbb := BoxAt.new (w5.alloc (.cells #[.pointer P1] 58)) (.pointer P2) 58
                rw [World.size_alloc, hs5] at hbb
                rw [hs5] at hba
                generalize (w5.alloc (.cells #[.pointer P1] 58)).alloc (.cells #[.pointer P2] 58) = w6 at *
                have hloA : T1.Lo wd.heap.size := (He1.out.tree.below Hbd.out).lo
                have hloB : T2.Lo wd.heap.size := (Hcurwc.out.tree.below Hbd.out).lo
                obtain ⟨D, hD⟩ : ∃ D, diffL T1.kvs T2.kvs = D := ⟨_, rfl⟩
                rw [hD] at Hch
                have hDr : D.length = r := Hch.out.hlen
                have hI0 : DiffsI wd C r g [] w6 := ⟨Hbw.out.below hu1, Hbi.out.below hu1, Hb5.out.trans (hu1.mono Hb5.out.size)⟩
                have hstops := diff_stops (mm - 1) (wd.heap.size + 2) (wd.heap.size + 2 + 1) wd.heap.size (wd.heap.size + 4) T1 T2 w6 (by omega) (by omega) (by omega) (by omega) (by rw [HP1.out]; exact hba.cell) (by rw [HP2.out]; exact hbb.cell) (hA5.below hu1) (hB5.below hu1) hloA.outOf hloB.outOf He1.out.asc Hcurwc.out.asc (by have h1 := He1.out.few; have h2 := Hcurwc.out.few; simp only at h1 h2; omega)
                rw [hD] at hstops
                have hbelw : Below w.heap.size w wd := Hbel4.out.trans (Hbd.out.mono Hbel4.out.size)
                have Hbox6 := Lib.hid (fun (y : World) (hy : Below wd.heap.size wd y) => Hbox4.out.below (Hbd.out.trans (hy.mono Hbd.out.size)))
                have Hbelw := Lib.hid hbelw; clear hbelw
                clear Hbw Hbi Hb5 Hdf He1 Hcurwc hA5 hB5 hba hbb hloA hloB HP1 HP2 hD Hbel4 Hbd Hbox4
                have Hstops := Lib.hid hstops; clear hstops
                have HI0 := Lib.hid hI0; clear hI0 hu1
                refine (wpIn_wide (n := mm)).1 ?_
                refine Range.wpIn_range (F := Fence.wide) rfl (by omega) (gf := 66) (lb := #[.pointer (some ⟨wd.heap.size + 2, 0, none⟩), .pointer (some ⟨wd.heap.size + 2 + 1, 0, none⟩)]) rfl trivial (enters_of Try.func66 (by kernel_rfl) rfl)
                  Hstops.out (fun h k => h.trans k) (keepC_b (by omega)) (Below.refl _ _) (fun _ => rfl)
                  (DiffsI wd C r g) (fun c pre _ => c = .ret ∧ ∃ (p : List Chg) (x : Chg), pre = p ++ [x] ∧ D[p.length]? ≠ some x) (DiffsI.own (by omega)) (fun _ _ _ _ _ h _ _ => h) HI0.out ?round ?done ?stop
                case round =>
                  rintro l pre x W hI hlen
                  clear HI0 Hstops
                  obtain ⟨xk, xo, xn, xa, xb⟩ := x
                  have HI := Lib.hid hI; clear hI
                  dsimp only [chgV, chgCells]
                  gi_wp2
                  have hbW : Below W.heap.size W (W.alloc (.cells (chgCells xo xn xa xb) 81)) := (Below.refl _ _).alloc (Nat.le_refl _) _
                  have hnW : ChgAt (W.alloc (.cells (chgCells xo xn xa xb) 81)) W.heap.size xo xn xa xb := heap_alloc_new W _
                  have hlW := HI.out.bi.lt
                  refine ⟨keepsFrom_below hbW, KeepC.of_below hbW (by omega), fun W2 hT => ?_⟩
                  have hT' : Range.Turned w6.heap.size l (W.alloc (.cells (chgCells xo xn xa xb) 81)) W2 := hT
                  have hi2 : DiffsI wd C r g pre W2 := ⟨turned_cells hT' (HI.out.bw.below hbW), turned_cells hT' (HI.out.bi.below hbW), (HI.out.bel.trans (hbW.mono HI.out.bel.size)).trans (turned_below (by omega) hT')⟩
                  have hn2 : ChgAt W2 W.heap.size xo xn xa xb := turned_cells hT' hnW
                  generalize W.heap.size = g9 at *
                  clear hT hT' hbW hnW HI
                  have Hi2 := Lib.hid hi2; clear hi2
                  have Hn2 := Lib.hid hn2; clear hn2
                  obtain ⟨c, hc⟩ : ∃ c, D[pre.length]? = some c := ⟨_, List.getElem?_eq_getElem hlen⟩
                  obtain ⟨b, o, hC, _⟩ := chgs_get (Hch.out.below Hi2.out.bel) hc
                  subst hC
                  have hrow : ∀ y, KeptW W2 y → y.cell? ⟨b, o + pre.length * 5, none⟩ = some (.string c.key) ∧ y.cell? ⟨b, o + pre.length * 5 + 1, none⟩ = some (.string c.old) ∧ y.cell? ⟨b, o + pre.length * 5 + 2, none⟩ = some (.string c.new) ∧
                      y.cell? ⟨b, o + pre.length * 5 + 3, none⟩ = some (.bool c.had) ∧ y.cell? ⟨b, o + pre.length * 5 + 4, none⟩ = some (.bool c.has) := fun y hy => by
                    obtain ⟨b', o', hC', _, h⟩ := chgs_get (Hch.out.below (Hi2.out.bel.trans (KeptW.bel hy |>.mono Hi2.out.bel.size))) hc
                    cases hC'
                    exact h
                  have hlt : (pre.length : Int) < (r : Int) := by omega
                  have hsucc := tsucc (n := pre.length) (by have := Hch.out.hmax; unfold maxLen at this; omega)
                  obtain ⟨ck, co, cn, ca, cb⟩ := c
                  simp only at hrow
                  have Hrow := Lib.hid hrow; clear hrow
                  have Hc := Lib.hid hc; clear hc
                  obtain ⟨q, hq⟩ : ∃ q, pre.length = q := ⟨_, rfl⟩
                  rw [hq] at Hrow hlt hsucc
                  have Hq := Lib.hid hq; clear hq
                  have hbi2 : BoxAt W2 (wd.heap.size + 1) (.int .i64 (q : Int)) 3 := by have := Hi2.out.bi; rw [Hq.out] at this; exact this
                  have Hbi2 := Lib.hid hbi2; clear hbi2
                  have hltN : q < r := by omega
                  gi_wp2
                  have hkd : KeptW W2 W2.drew := ⟨rfl, rfl, rfl, Nat.le_refl _, fun _ _ => rfl⟩
                  refine RegF.wpIn_region_can (F := Fence.wide.inRound l) (KeptW W2) [(0, 0), (1, 0), (2, 0), (3, 0), (4, 0), (5, 0), (6, 0), (7, 0), (8, 0), (9, 0), (10, 0), (11, 0), (12, 0), (13, 0), (14, 0), (15, 0), (16, 0), (17, 0), (18, 0), (19, 0), (20, 0)] (by kernel_rfl) (by kernel_rfl) (by kernel_rfl) (fun _ _ d _ _ h => by cases d <;> exact h) hkd ?_
                  dsimp only [RegF.pick, List.getElem?_cons_zero, List.getElem?_cons_succ]
                  change RegF.Can _ _ _ _ _ _ _ _ W2.drew
                  refine RegF.can_reads ?_
                  intro K hK
                  go_simp
                  refine ⟨.int .i64 (q : Int), fun y hy => ?_, hK _ ?_⟩
                  · have q0 := (Hbi2.out.below (KeptW.bel hy)).cell
                    go_simp
                  clear hK K
                  refine RegF.can_reads ?_
                  intro K hK
                  go_simp
                  refine ⟨.slice (some ⟨b, o, none⟩) r g, fun y hy => ?_, hK _ ?_⟩
                  · have q0 := (Hi2.out.bw.below (KeptW.bel hy)).cell
                    go_simp
                  clear hK K
                  iterate 3 (refine RegF.can_reads ?_; intro K hK; go_simp; (first | (refine ⟨_, fun _ _ => rfl, hK _ ?_⟩) | (refine hK _ ?_)); clear hK K)
                  iterate 2 (refine RegF.can_reads ?_; intro K hK; go_simp; (first | (refine ⟨_, fun _ _ => rfl, hK _ ?_⟩) | (refine hK _ ?_)); clear hK K)
                  refine RegF.can_reads ?_
                  intro K hK
                  go_simp
                  refine ⟨.string xo, fun y hy => ?_, hK _ ?_⟩
                  · obtain ⟨q0, q1, q2, q3⟩ := (Hn2.out.below (KeptW.bel hy)).cells
                    go_simp
                  clear hK K
                  iterate 1 (refine RegF.can_reads ?_; intro K hK; go_simp; (first | (refine ⟨_, fun _ _ => rfl, hK _ ?_⟩) | (refine hK _ ?_)); clear hK K)
                  refine RegF.can_reads ?_
                  intro K hK
                  go_simp
                  refine ⟨.string xn, fun y hy => ?_, hK _ ?_⟩
                  · obtain ⟨q0, q1, q2, q3⟩ := (Hn2.out.below (KeptW.bel hy)).cells
                    go_simp
                  clear hK K
                  iterate 1 (refine RegF.can_reads ?_; intro K hK; go_simp; (first | (refine ⟨_, fun _ _ => rfl, hK _ ?_⟩) | (refine hK _ ?_)); clear hK K)
                  refine RegF.can_reads ?_
                  intro K hK
                  go_simp
                  refine ⟨.bool xa, fun y hy => ?_, hK _ ?_⟩
                  · obtain ⟨q0, q1, q2, q3⟩ := (Hn2.out.below (KeptW.bel hy)).cells
                    go_simp
                  clear hK K
                  iterate 1 (refine RegF.can_reads ?_; intro K hK; go_simp; (first | (refine ⟨_, fun _ _ => rfl, hK _ ?_⟩) | (refine hK _ ?_)); clear hK K)
                  refine RegF.can_reads ?_
                  intro K hK
                  go_simp
                  refine ⟨.bool xb, fun y hy => ?_, hK _ ?_⟩
                  · obtain ⟨q0, q1, q2, q3⟩ := (Hn2.out.below (KeptW.bel hy)).cells
                    go_simp
                  clear hK K
                  iterate 1 (refine RegF.can_reads ?_; intro K hK; go_simp; (first | (refine ⟨_, fun _ _ => rfl, hK _ ?_⟩) | (refine hK _ ?_)); clear hK K)
                  refine RegF.can_reads ?_
                  intro K hK
                  go_simp
                  refine ⟨.slice (some ⟨b, o, none⟩) r g, fun y hy => ?_, hK _ ?_⟩
                  · have q0 := (Hi2.out.bw.below (KeptW.bel hy)).cell
                    go_simp
                  clear hK K
                  refine RegF.can_reads ?_
                  intro K hK
                  go_simp
                  refine ⟨.int .i64 (q : Int), fun y hy => ?_, hK _ ?_⟩
                  · have q0 := (Hbi2.out.below (KeptW.bel hy)).cell
                    go_simp
                  clear hK K
                  iterate 1 (refine RegF.can_reads ?_; intro K hK; go_simp; (first | (refine ⟨_, fun _ _ => rfl, hK _ ?_⟩) | (refine hK _ ?_)); clear hK K)
                  refine RegF.can_reads ?_
                  intro K hK
                  go_simp
                  refine ⟨.agg #[.string ck, .string co, .string cn, .bool ca, .bool cb], fun y hy => ?_, hK _ ?_⟩
                  · obtain ⟨q0, q1, q2, q3, q4⟩ := Hrow.out y hy
                    go_simp
                  clear hK K
                  by_cases he : (⟨xk, xo, xn, xa, xb⟩ : Chg) = ⟨ck, co, cn, ca, cb⟩
                  · cases he
                    refine RegF.can_reads ?_
                    intro K hK
                    go_simp
                    refine ⟨.bool false, fun y hy => by simp, hK _ ?_⟩
                    clear hK K
                    iterate 1 (refine RegF.can_reads ?_; intro K hK; go_simp; (first | (refine ⟨_, fun _ _ => rfl, hK _ ?_⟩) | (refine hK _ ?_)); clear hK K)
                    refine RegF.can_nil ?_
                    have hi3 : DiffsI wd (some ⟨b, o, none⟩) r g pre W2.drew := ⟨Hi2.out.bw, Hi2.out.bi, Hi2.out.bel.trans (KeptW.bel hkd |>.mono Hi2.out.bel.size)⟩
                    have hk3 : KeepsFrom w6.heap.size W2 W2.drew := keepsFrom_below (KeptW.bel hkd)
                    have hb3 : Below W2.heap.size W2 W2.drew := KeptW.bel hkd
                    generalize W2.drew = W3 at *
                    have f0 : W3.cell? ⟨wd.heap.size + 1, 0, none⟩ = some (.int .i64 (q : Int)) := by have := hi3.bi.cell; rw [Hq.out] at this; exact this
                    have f1 := hi3.bi.frozen
                    have Hi3 := Lib.hid hi3; clear hi3
                    have Hk3 := Lib.hid hk3; clear hk3
                    have Hb3 := Lib.hid hb3; clear hb3 hkd
                    gi_wp2
                    refine ⟨keepsFrom_set Hk3.out, ⟨below_set (Hb3.out.mono (by have := Hi2.out.bw.lt; omega)) (by omega), fun p cs t f hp e => (Below.heap_setCell _ _ _ _ (by show p ≠ wd.heap.size + 1; omega)).trans ((Hb3.out.block p (Array.getElem?_eq_some_iff.1 e).1).trans e)⟩, Hi3.out.bw.other (by omega), ?_, below_set Hi3.out.bel (by omega)⟩
                    have := Hi3.out.bi.set (v' := .int .i64 ((q + 1 : Nat) : Int))
                    rw [List.length_append, Hq.out]
                    exact this
                  · have hne : ¬ (xk.toList = ck.toList ∧ xo.toList = co.toList ∧ xn.toList = cn.toList ∧ xa = ca ∧ xb = cb) := fun ⟨h1, h2, h3, h4, h5⟩ => he (by
                      rw [tl_inj h1, tl_inj h2, tl_inj h3, h4, h5])
                    refine RegF.can_reads ?_
                    intro K hK
                    go_simp
                    refine ⟨.bool true, fun y hy => ?_, hK _ ?_⟩
                    · repeat' split
                      all_goals first | rfl | (exfalso; apply hne; simp_all)
                    clear hK K
                    iterate 1 (refine RegF.can_reads ?_; intro K hK; go_simp; (first | (refine ⟨_, fun _ _ => rfl, hK _ ?_⟩) | (refine hK _ ?_)); clear hK K)
                    refine RegF.can_nil ?_
                    have hk3 : KeepsFrom w6.heap.size W2 W2.drew := keepsFrom_below (KeptW.bel hkd)
                    have hbox3 := Hbox6.out W2.drew (Hi2.out.bel.trans (KeptW.bel hkd |>.mono Hi2.out.bel.size))
                    generalize W2.drew = W3 at *
                    have f0 := hbox3.cell
                    have f1 := hbox3.frozen
                    have Hk3 := Lib.hid hk3; clear hk3 hkd hbox3
                    gi_wp2
                    exact ⟨keepsFrom_set Hk3.out, rfl, pre, _, rfl, by rw [Hc.out]; intro h; exact he (Option.some.inj h).symm⟩
                case done =>
                  rintro E ys W hE rfl hI hK
                  have hbox := Hbox6.out W hI.bel
                  have f0 := hI.bw.cell
                  have f1 := hI.bi.cell
                  rw [hDr] at f1
                  have HI := Lib.hid hI; clear hI
                  have HK := Lib.hid hK; clear hK
                  have Hbx := Lib.hid hbox; clear hbox
                  clear HI0 Hstops
                  go_wp2_with ((with_reducible refine (trWakes_any W).mono ?_); rintro e w7 ⟨rfl, hw⟩; have z0 := (Hbx.out.below hw).cell; have z1 := (Hbx.out.below hw).frozen)
                  have hwd := HI.out.bel
                  have hwl := HI.out.bi.lt
                  have hg0 : w.heap.size < wd.heap.size := (Hbox6.out wd (Below.refl _ _)).lt
                  have hK2 : (w7.setCell ⟨w.heap.size, 0, none⟩ (.bool true)).heap[E]? = some (.deferred (some [])) := (Below.heap_setCell _ _ _ _ (by show E ≠ w.heap.size; omega)).trans ((hw.block E (Array.getElem?_eq_some_iff.1 HK.out).1).trans HK.out)
                  have hbx2 : BoxAt (w7.setCell ⟨w.heap.size, 0, none⟩ (.bool true)) w.heap.size (.bool true) 4 := (Hbx.out.below hw).set
                  have hb6 : Below w.heap.size w (w7.setCell ⟨w.heap.size, 0, none⟩ (.bool true)) := below_set (Hbelw.out.trans ((hwd.mono Hbelw.out.size).trans (hw.mono (Nat.le_trans Hbelw.out.size hwd.size)))) (Nat.le_refl _)
                  generalize w7.setCell ⟨w.heap.size, 0, none⟩ (.bool true) = W6 at *
                  have hc7 := cell_kept hbx2.cell (grownBy_putObj' W6 E (.deferred none)) (fun r e => by cases e; exact ⟨_, hK2, rfl⟩)
                  have hb7 : Below w.heap.size w (W6.putObj E (.deferred none)) := hb6.trans (belowK_b (w := w) (Nat.le_refl _) W6 E _ _ (by omega) hK2 rfl rfl)
                  refine ⟨by simp, .inl ⟨_, _, rfl, run_takeDeferred hK2, ?_⟩⟩
                  refine ⟨.bool true, ?_, rfl, hb7⟩
                  simp [results, Try.results9, go_sem, hc7]
                case stop =>
                  rintro E c pre W hE hpre ⟨rfl, p, x, rfl, hne⟩ _
                  exfalso
                  obtain ⟨s, hs⟩ := hpre
                  apply hne
                  rw [← hs]
                  simp
theorem treeDiffs_law (a0 : Option Addr) (l0 c0 : Nat) (z0 : List TAct) (a1 : Option Addr) (l1 c1 : Nat) (z1 : List TAct) (a2 : Option Addr) (l2 c2 : Nat) (z2 : List TAct) {w : World}
    (h0 : TActsAt w a0 l0 z0) (h1 : TActsAt w a1 l1 z1) (h2 : TActsAt w a2 l2 z2) (_ : World) :
    Calls Try.prog 9 #[.slice a0 l0 c0, .slice a1 l1 c1, .slice a2 l2 c2] w fun e w' => e = .returned (.bool true) ∧ Below w.heap.size w w' :=
  callsIn_wide.1 (treeDiffs_in a0 l0 c0 z0 a1 l1 c1 z1 a2 l2 c2 z2 w h0 h1 h2 3 (Nat.le_refl _))
end Go.Proofs.Ytimhpncdlaildaa
