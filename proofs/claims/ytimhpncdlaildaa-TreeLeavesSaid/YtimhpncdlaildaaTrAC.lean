/- The law TreeLeaves (under way). No condition. -/
import Derived.Test.YtimhpncdlaildaaTrAE
import Derived.Test.YtimhpncdlaildaaTrK
namespace Go.Proofs.Ytimhpncdlaildaa
open Go.RowKit Go.Shelf
attribute [local go_sem] Oper.semAt_some

/-- What TreeLeaves has in its boxes. -/
structure LvI (w0 : World) (mo : BitVec 8) (X Y : Tr) (i j : Nat) (wr : World) : Prop where
  bm : BoxAt wr w0.heap.size (.int .u8 (mo.toNat : Int)) 5
  br : BoxAt wr (w0.heap.size + 1) (.bool false) 4
  bx : BoxAt wr (w0.heap.size + 2) (.pointer X.ptr) 58
  by_ : BoxAt wr (w0.heap.size + 3) (.pointer Y.ptr) 58
  tx : TreeAt wr X
  ty : TreeAt wr Y
  ax : Asc X.sh.kv
  ay : Asc Y.sh.kv
  fx : X.cnt ≤ i
  fy : Y.cnt ≤ j
  bel : Below w0.heap.size w0 wr
theorem LvI.below {w0 wr wr' : World} {mo : BitVec 8} {X Y : Tr} {i j : Nat} (h : LvI w0 mo X Y i j wr) (hb : Below wr.heap.size wr wr') : LvI w0 mo X Y i j wr' :=
  ⟨h.bm.below hb, h.br.below hb, h.bx.below hb, h.by_.below hb, h.tx.below hb, h.ty.below hb, h.ax, h.ay, h.fx, h.fy, h.bel.trans (hb.mono h.bel.size)⟩
theorem LvI.putX {w0 wr : World} {mo : BitVec 8} {X Y Z : Tr} {i j k : Nat} (h : LvI w0 mo X Y i j wr) (hz : TreeAt wr Z) (ha : Asc Z.sh.kv) (hf : Z.cnt ≤ k) : LvI w0 mo Z Y k j (wr.setCell ⟨w0.heap.size + 2, 0, none⟩ (.pointer Z.ptr)) :=
  ⟨h.bm.other (by omega), h.br.other (by omega), h.bx.set, h.by_.other (by omega), hz.set h.bx, h.ty.set h.bx, ha, h.ay, hf, h.fy, below_set h.bel (by omega)⟩
theorem LvI.putY {w0 wr : World} {mo : BitVec 8} {X Y Z : Tr} {i j k : Nat} (h : LvI w0 mo X Y i j wr) (hz : TreeAt wr Z) (ha : Asc Z.sh.kv) (hf : Z.cnt ≤ k) : LvI w0 mo X Z i k (wr.setCell ⟨w0.heap.size + 3, 0, none⟩ (.pointer Z.ptr)) :=
  ⟨h.bm.other (by omega), h.br.other (by omega), h.bx.other (by omega), h.by_.set, h.tx.set h.by_, hz.set h.by_, h.ax, ha, h.fx, hf, below_set h.bel (by omega)⟩

/-- What the loop over All has between two rounds. -/
structure AllI (wq : World) (pre : Prs) (W : World) : Prop where
  bn : BoxAt W wq.heap.size (.int .i64 (pre.length : Int)) 3
  bl : BoxAt W (wq.heap.size + 1) (.string (lastOf (pre.map (·.1)))) 9
  bel : Below wq.heap.size wq W
theorem AllI.own {wq : World} {B0 : Nat} (hB : wq.heap.size ≤ B0) : OwnFrom B0 (AllI wq) := fun s W W' row hs hg hr =>
  ⟨BoxAt.own (f := fun (s : Prs) => .int .i64 (s.length : Int)) s W W' row hs.bn hg hr, BoxAt.own (f := fun (s : Prs) => .string (lastOf (s.map (·.1)))) s W W' row hs.bl hg hr, below_own hB hs.bel hg hr⟩
def GoodA (X : Tr) (p : Prs) (x : ByteArray × ByteArray) : Prop := (p = [] ∨ slt (lastOf (p.map (·.1))) x.1 = true) ∧ X.look x.1 = some x.2
def IxA (X : Tr) (mo : BitVec 8) (wq : World) (c : Code) (pre : Prs) (W : World) : Prop := (c = .ret ∧ ∃ p x, pre = p ++ [x] ∧ ¬ GoodA X p x) ∨ (c = .exit 4 ∧ AllI wq pre W ∧ mo.toNat ≤ pre.length)
theorem IxA.own {X : Tr} {mo : BitVec 8} {wq : World} {c : Code} {B0 : Nat} (hB : wq.heap.size ≤ B0) : OwnFrom B0 (IxA X mo wq c) := fun s W W' row hs hg hr => by
  rcases hs with h | ⟨h1, h2, h3⟩
  · exact .inl h
  · exact .inr ⟨h1, AllI.own hB s W W' row h2 hg hr, h3⟩
theorem good_all {X : Tr} (ha : Asc X.sh.kv) {p : Prs} {x : ByteArray × ByteArray} (h : p ++ [x] <+: X.kvs) : GoodA X p x := by
  refine ⟨rising (·.1) (asc_map ha) h, ?_⟩
  rw [sh_look, look_kv x.1 ha]
  obtain ⟨s, hs⟩ := h
  show (x.1, x.2) ∈ X.kvs
  rw [← hs]
  simp
/-- What stands behind the loop over All. -/
def BehA (X : Tr) (mo : BitVec 8) (wq : World) (pre : Prs) (W : World) : Prop := AllI wq pre W ∧ pre.length ≤ X.cnt ∧ (pre.length = X.cnt ∨ mo.toNat ≤ pre.length)

/-- What the loop over Diff has between two rounds. -/
structure DfI (wq : World) (gm nN E : Nat) (la : ByteArray) (pre : List Chg) (V : World) : Prop where
  bm : BoxAt V gm (.int .i64 (pre.length : Int)) 3
  bl : BoxAt V (wq.heap.size + 1) (.string ((pre.map (·.key)).getLast?.getD la)) 9
  bn : BoxAt V wq.heap.size (.int .i64 (nN : Int)) 3
  bel : Below wq.heap.size wq V
  dk : V.heap[E]? = some (.deferred (some []))
theorem DfI.own {wq : World} {gm nN E B0 : Nat} {la : ByteArray} (hB : wq.heap.size ≤ B0) (hE : E < B0) : OwnFrom B0 (DfI wq gm nN E la) := fun s W W' row hs hg hr =>
  ⟨BoxAt.own (f := fun (s : List Chg) => .int .i64 (s.length : Int)) s W W' row hs.bm hg hr, BoxAt.own (f := fun (s : List Chg) => .string ((s.map (·.key)).getLast?.getD la)) s W W' row hs.bl hg hr,
    BoxAt.own (f := fun _ => _) s W W' row hs.bn hg hr, below_own hB hs.bel hg hr, def_own hE hs.dk hg hr⟩
def GoodD (X Y : Tr) (p : List Chg) (x : Chg) : Prop := (p = [] ∨ slt (lastOf (p.map (·.key))) x.key = true) ∧ x = chgOf x.key (X.sh.look x.key) (Y.sh.look x.key) ∧ x.real = true
def IxD (X Y : Tr) (wq : World) (gm nN E : Nat) (la : ByteArray) (c : Code) (pre : List Chg) (W : World) : Prop := (c = .ret ∧ ∃ p x, pre = p ++ [x] ∧ ¬ GoodD X Y p x) ∨ (c = .exit 6 ∧ DfI wq gm nN E la pre W)
theorem IxD.own {X Y : Tr} {wq : World} {gm nN E B0 : Nat} {la : ByteArray} {c : Code} (hB : wq.heap.size ≤ B0) (hE : E < B0) : OwnFrom B0 (IxD X Y wq gm nN E la c) := fun s W W' row hs hg hr => by
  rcases hs with h | ⟨h1, h2⟩
  · exact .inl h
  · exact .inr ⟨h1, DfI.own hB hE s W W' row h2 hg hr⟩
theorem good_diff {X Y : Tr} (hx : Asc X.sh.kv) (hy : Asc Y.sh.kv) {p : List Chg} {x : Chg} (h : p ++ [x] <+: diffL X.kvs Y.kvs) : GoodD X Y p x := by
  have hm : x ∈ diffL X.sh.kv Y.sh.kv := by
    obtain ⟨s, hs⟩ := h
    show x ∈ diffL X.kvs Y.kvs
    rw [← hs]
    simp
  obtain ⟨h1, h2⟩ := diff_look hx hy hm
  exact ⟨rising (·.key) (diff_elem _ (Nat.le_refl _) hx hy).2 h, h1, h2⟩
theorem last_or {l : List ByteArray} {k : ByteArray} (h : l ≠ []) : l.getLast?.getD k = lastOf l := by
  unfold lastOf
  cases hl : l.getLast? with
  | none => exact absurd (List.getLast?_eq_none_iff.1 hl) h
  | some x => rfl

set_option maxRecDepth 100000 in
set_option maxHeartbeats 40000000 in
theorem treeLeaves_in (a0 : Option Addr) (l0 c0 : Nat) (z0 : List TAct) (a1 : Option Addr) (l1 c1 : Nat) (z1 : List TAct) (mo : BitVec 8) (w : World)
    (h0 : TActsAt w a0 l0 z0) (h1 : TActsAt w a1 l1 z1) (mm : Nat) (hmm : 3 ≤ mm) :
    CallsIn Fence.wide mm Try.prog 11 #[.slice a0 l0 c0, .slice a1 l1 c1, .int .u8 (mo.toNat : Int)] w fun e w' => e = .returned (.bool true) ∧ Below w.heap.size w w' := by
  have hg0 := fun (y : World) (hy : Below w.heap.size w y) => tgreat_any a0 l0 c0 z0 y (h0.below hy)
  have hg1 := fun (y : World) (hy : Below w.heap.size w y) => tgreat_any a1 l1 c1 z1 y (h1.below hy)
  have Hg0 := Lib.hid hg0; clear hg0
  have Hg1 := Lib.hid hg1; clear hg1
  have H0 := Lib.hid h0; clear h0
  have H1 := Lib.hid h1; clear h1
  refine callsIn_of_wp_marks Try.func11 rfl trivial ?_ rfl
  simp only [Try.ntmps11, List.size_toArray, List.length_cons, List.length_nil, Nat.reduceAdd, Nat.reduceSub, Array.replicate_succ, Array.replicate_zero, List.push_toArray, List.append_toArray, List.nil_append, List.cons_append]
  refine wpIn_wide.2 ?_
  go_upto_region 1 with fail
  have hbm := (BoxAt.new w (.int .u8 (mo.toNat : Int)) 5).below ((Below.refl _ _).alloc (Nat.le_refl _) (.cells #[.bool false] 4))
  have hbr := BoxAt.new (w.alloc (.cells #[.int .u8 (mo.toNat : Int)] 5)) (.bool false) 4
  rw [World.size_alloc] at hbr
  have hbel : Below w.heap.size w ((w.alloc (.cells #[.int .u8 (mo.toNat : Int)] 5)).alloc (.cells #[.bool false] 4)) := ((Below.refl _ _).alloc (Nat.le_refl _) _).alloc (by simp) _
  have hs1 : ((w.alloc (.cells #[.int .u8 (mo.toNat : Int)] 5)).alloc (.cells #[.bool false] 4)).heap.size = w.heap.size + 2 := by simp
  generalize (w.alloc (.cells #[.int .u8 (mo.toNat : Int)] 5)).alloc (.cells #[.bool false] 4) = w1 at *
  have hb0 := Hg0.out w1 hbel
  have hb1 := Hg1.out w1 hbel
  have Hbm := Lib.hid hbm; clear hbm
  have Hbr := Lib.hid hbr; clear hbr
  have Hbel := Lib.hid hbel; clear hbel
  clear Hg0 Hg1
  by_cases hgr : (tgreatS z0 || tgreatS z1) = true
  · obtain ⟨x0, e0⟩ : ∃ x, tgreatS z0 = x := ⟨_, rfl⟩
    obtain ⟨x1, e1⟩ : ∃ x, tgreatS z1 = x := ⟨_, rfl⟩
    rw [e0, e1] at hgr
    rw [e0] at hb0
    rw [e1] at hb1
    clear e0 e1
    have Hb0 := Lib.hid hb0; clear hb0
    have Hb1 := Lib.hid hb1; clear hb1
    have hor : (x0 = true) ∨ (x0 = false ∧ x1 = true) := by
      cases x0 <;> cases x1 <;> simp_all
    clear hgr
    rcases hor with rfl | ⟨rfl, rfl⟩ <;>
    · go_upto_region 2 with (first
        | ((with_reducible refine Hb0.out.mono ?_); rintro e w' ⟨rfl, rfl⟩)
        | ((with_reducible refine Hb1.out.mono ?_); rintro e w' ⟨rfl, rfl⟩))
      go_wp2_with ((with_reducible refine (trWakes_any w1).mono ?_); rintro e w3 ⟨rfl, hw⟩; have f0 := (Hbr.out.below hw).cell; have f1 := (Hbr.out.below hw).frozen)
      have f2 := (Hbr.out.below hw).set (v' := .bool true)
      have hb3 : Below w.heap.size w (w3.setCell ⟨w.heap.size + 1, 0, none⟩ (.bool true)) := below_set (Hbel.out.trans (hw.mono Hbel.out.size)) (by omega)
      have f3 := f2.cell
      refine ⟨.bool true, ?_, rfl, hb3⟩
      simp [results, Try.results11, go_sem, f3]
  · have hg0 : tgreatS z0 = false := by cases h : tgreatS z0 <;> simp_all
    have hg1 : tgreatS z1 = false := by cases h : tgreatS z1 <;> simp_all
    rw [hg0] at hb0
    rw [hg1] at hb1
    obtain ⟨hlen0, hsz0⟩ := tgreat_ok hg0
    obtain ⟨hlen1, hsz1⟩ := tgreat_ok hg1
    rw [H0.out.hlen] at hlen0 hsz0
    rw [H1.out.hlen] at hlen1 hsz1
    have Hsz0 := Lib.hid hsz0; clear hsz0
    have Hsz1 := Lib.hid hsz1; clear hsz1
    have Hb0 := Lib.hid hb0; clear hb0
    have Hb1 := Lib.hid hb1; clear hb1
    clear hg0 hg1 hgr
    go_upto_region 4 with (first
        | ((with_reducible refine Hb0.out.mono ?_); clear Hb0; rintro e w' ⟨rfl, rfl⟩)
        | ((with_reducible refine Hb1.out.mono ?_); clear Hb1; rintro e w' ⟨rfl, rfl⟩))
    -- the boxes
    have hI0 : LvI w mo .nil .nil 0 0 ((w1.alloc (.cells #[.pointer none] 58)).alloc (.cells #[.pointer none] 58)) := by
      have hb3 : Below w1.heap.size w1 ((w1.alloc (.cells #[.pointer none] 58)).alloc (.cells #[.pointer none] 58)) := ((Below.refl _ _).alloc (Nat.le_refl _) _).alloc (by simp) _
      have hx := (BoxAt.new w1 (.pointer none) 58).below ((Below.refl _ _).alloc (Nat.le_refl _) (.cells #[.pointer none] 58))
      have hy := BoxAt.new (w1.alloc (.cells #[.pointer none] 58)) (.pointer none) 58
      rw [World.size_alloc, hs1] at hy
      rw [hs1] at hx
      exact ⟨Hbm.out.below hb3, Hbr.out.below hb3, hx, hy, trivial, trivial, List.Pairwise.nil, List.Pairwise.nil, Nat.le_refl _, Nat.le_refl _, Hbel.out.trans (hb3.mono Hbel.out.size)⟩
    rw [show w.heap.size + 2 + 1 = w.heap.size + 3 by omega]
    generalize (w1.alloc (.cells #[.pointer none] 58)).alloc (.cells #[.pointer none] 58) = w2 at *
    have HI0 := Lib.hid hI0; clear hI0 Hbm Hbr Hbel hs1
    go_wp2_with fail
    go_loopw [9] (fun sc wx => ∃ (i : Nat) (Z : Tr), i ≤ l0 ∧ sc = .int .i64 (i : Int) ∧ LvI w mo Z .nil i 0 wx) (fun sc _ => l0 - (intOf sc).toNat)
    case atStart => exact ⟨0, .nil, by omega, rfl, HI0.out⟩
    case round =>
      obtain ⟨i, Z, hi, rfl, hI⟩ := hrel
      have HI := Lib.hid hI; clear hI
      by_cases hlt : i < l0
      · have hlt' : (i : Int) < (l0 : Int) := by omega
        obtain ⟨b, o, rfl, hbl, e0, e1, e2⟩ := tacts_cells (H0.out.below HI.out.bel) hlt
        have hsucc := tsucc (n := i) (by omega)
        have hk := (Hsz0.out i hlt).1
        have hcs : ∀ y, KeptW wr y → y.cell? ⟨b, o + i * 3, none⟩ = some (.int .u8 ((z0.getD i default).act.toNat : Int)) ∧ y.cell? ⟨b, o + i * 3 + 1, none⟩ = some (.string (z0.getD i default).key) ∧ y.cell? ⟨b, o + i * 3 + 2, none⟩ = some (.string (z0.getD i default).val) :=
          fun y hy => ⟨(hy.bel.cell (p := ⟨b, o + i * 3, none⟩) hbl).trans e0, (hy.bel.cell (p := ⟨b, o + i * 3 + 1, none⟩) hbl).trans e1, (hy.bel.cell (p := ⟨b, o + i * 3 + 2, none⟩) hbl).trans e2⟩
        generalize z0.getD i default = x at *
        have hdoes := does_any x (by unfold maxLen; omega) Z wr.drew.heap.size wr.drew (Nat.le_refl _) HI.out.tx.lo HI.out.tx.drew (by have := HI.out.fx; omega)
        have hasc := asc_step HI.out.ax x
        obtain ⟨x0, x1, x2⟩ := x
        simp only at e0 e1 e2 hk hcs
        have Hdoes := Lib.hid (show Calls Try.prog 38 #[.pointer Z.ptr, .agg #[.int .u8 (x0.toNat : Int), .string x1, .string x2]] wr.drew _ from hdoes); clear hdoes
        have Hcs := Lib.hid hcs; clear hcs
        have Hasc := Lib.hid hasc; clear hasc
        clear e0 e1 e2
        go_wp2_with fail
        refine (wpIn_wide (n := 1)).1 ?_
        refine RegG.wpIn_region_calm (F := Fence.wide) (KeptW wr) [(0, 0), (1, 0), (2, 0), (3, 0), (4, 0), (5, 1), (6, 2)] (by kernel_rfl) (by kernel_rfl) (by kernel_rfl) (KeptW.drew wr) ?_
        dsimp only [RegG.pick, List.getElem?_cons_zero, List.getElem?_cons_succ]
        change RegG.Can _ _ _ _ _ _ _ _ wr.drew
        refine RegG.can_reads ?_
        intro K hK
        go_simp
        refine ⟨.pointer Z.ptr, fun y hy => ?_, hK _ ?_⟩
        · have f0 := (HI.out.bx.below (KeptW.bel hy)).cell
          go_simp
        clear hK K
        iterate 3 (refine RegG.can_reads ?_; intro K hK; go_simp; (first | (refine ⟨_, fun _ _ => rfl, hK _ ?_⟩) | (refine hK _ ?_)); clear hK K)
        refine RegG.can_reads ?_
        intro K hK
        go_simp
        refine ⟨.agg #[.int .u8 (x0.toNat : Int), .string x1, .string x2], fun y hy => ?_, hK _ ?_⟩
        · obtain ⟨f0, f1, f2⟩ := Hcs.out y hy
          go_simp
        clear hK K
        refine RegG.can_turns (fun _ => trivial) ?_
        intro K K0 hK hK0
        go_simp
        refine ⟨trivial, ?_⟩
        refine (callsIn_wide.2 Hdoes.out).mono ?_
        rintro e w3 ⟨X, rfl, hx⟩
        have hk3 : KeptW wr w3 := (KeptW.drew wr).mono hx.bel
        refine hK _ _ hk3 ?_
        clear hK K hK0 K0
        have hI3 := HI.out.below (KeptW.bel hk3)
        have f0 := hI3.bx.cell
        have f1 := hI3.bx.frozen
        have hI4 := hI3.putX (k := i + 1) hx.at_ (by rw [hx.shp]; exact Hasc.out) (by have h1 := hx.num; have h2 := HI.out.fx; omega)
        have HI4 := Lib.hid hI4; clear hI4 hI3 hx hk3
        refine RegG.can_frees (fun _ => trivial) ?_
        intro K K0 hK hK0
        go_simp
        refine hK (fun _ => True) _ _ trivial ?_
        clear hK K hK0 K0
        refine RegG.can_calm ?_
        go_wp2_with fail
        go_roundw
        case rel => exact ⟨i + 1, X, hlt, rfl, HI4.out⟩
        case measure => simp [intOf]; omega
      · have hlt' : ¬ (i : Int) < (l0 : Int) := by omega
        obtain rfl : i = l0 := by omega
        clear hlt hlt' hi
        go_wp2_with fail
        have HX := HI; clear HI0 HI
        obtain ⟨X0, hX⟩ : ∃ q, q = Z := ⟨_, rfl⟩
        subst hX
        obtain ⟨i0, hX⟩ : ∃ q, q = i := ⟨_, rfl⟩
        subst hX
        go_loopw [10] (fun sc wx => ∃ (i : Nat) (Z : Tr), i ≤ l1 ∧ sc = .int .i64 (i : Int) ∧ LvI w mo X0 Z i0 i wx) (fun sc _ => l1 - (intOf sc).toNat)
        case atStart => exact ⟨0, .nil, by omega, rfl, HX.out⟩
        case round =>
          obtain ⟨i, Z, hi, rfl, hI⟩ := hrel
          have HI := Lib.hid hI; clear hI
          by_cases hlt : i < l1
          · have hlt' : (i : Int) < (l1 : Int) := by omega
            obtain ⟨b, o, rfl, hbl, e0, e1, e2⟩ := tacts_cells (H1.out.below HI.out.bel) hlt
            have hsucc := tsucc (n := i) (by omega)
            have hk := (Hsz1.out i hlt).1
            have hcs : ∀ y, KeptW wr y → y.cell? ⟨b, o + i * 3, none⟩ = some (.int .u8 ((z1.getD i default).act.toNat : Int)) ∧ y.cell? ⟨b, o + i * 3 + 1, none⟩ = some (.string (z1.getD i default).key) ∧ y.cell? ⟨b, o + i * 3 + 2, none⟩ = some (.string (z1.getD i default).val) :=
              fun y hy => ⟨(hy.bel.cell (p := ⟨b, o + i * 3, none⟩) hbl).trans e0, (hy.bel.cell (p := ⟨b, o + i * 3 + 1, none⟩) hbl).trans e1, (hy.bel.cell (p := ⟨b, o + i * 3 + 2, none⟩) hbl).trans e2⟩
            generalize z1.getD i default = x at *
            have hdoes := does_any x (by unfold maxLen; omega) Z wr.drew.heap.size wr.drew (Nat.le_refl _) HI.out.ty.lo HI.out.ty.drew (by have := HI.out.fy; omega)
            have hasc := asc_step HI.out.ay x
            obtain ⟨x0, x1, x2⟩ := x
            simp only at e0 e1 e2 hk hcs
            have Hdoes := Lib.hid (show Calls Try.prog 38 #[.pointer Z.ptr, .agg #[.int .u8 (x0.toNat : Int), .string x1, .string x2]] wr.drew _ from hdoes); clear hdoes
            have Hcs := Lib.hid hcs; clear hcs
            have Hasc := Lib.hid hasc; clear hasc
            clear e0 e1 e2
            go_wp2_with fail
            refine (wpIn_wide (n := 1)).1 ?_
            refine RegG.wpIn_region_calm (F := Fence.wide) (KeptW wr) [(0, 0), (1, 0), (2, 0), (3, 0), (4, 0), (5, 1), (6, 2)] (by kernel_rfl) (by kernel_rfl) (by kernel_rfl) (KeptW.drew wr) ?_
            dsimp only [RegG.pick, List.getElem?_cons_zero, List.getElem?_cons_succ]
            change RegG.Can _ _ _ _ _ _ _ _ wr.drew
            refine RegG.can_reads ?_
            intro K hK
            go_simp
            refine ⟨.pointer Z.ptr, fun y hy => ?_, hK _ ?_⟩
            · have f0 := (HI.out.by_.below (KeptW.bel hy)).cell
              go_simp
            clear hK K
            iterate 3 (refine RegG.can_reads ?_; intro K hK; go_simp; (first | (refine ⟨_, fun _ _ => rfl, hK _ ?_⟩) | (refine hK _ ?_)); clear hK K)
            refine RegG.can_reads ?_
            intro K hK
            go_simp
            refine ⟨.agg #[.int .u8 (x0.toNat : Int), .string x1, .string x2], fun y hy => ?_, hK _ ?_⟩
            · obtain ⟨f0, f1, f2⟩ := Hcs.out y hy
              go_simp
            clear hK K
            refine RegG.can_turns (fun _ => trivial) ?_
            intro K K0 hK hK0
            go_simp
            refine ⟨trivial, ?_⟩
            refine (callsIn_wide.2 Hdoes.out).mono ?_
            rintro e w3 ⟨X, rfl, hx⟩
            have hk3 : KeptW wr w3 := (KeptW.drew wr).mono hx.bel
            refine hK _ _ hk3 ?_
            clear hK K hK0 K0
            have hI3 := HI.out.below (KeptW.bel hk3)
            have f0 := hI3.by_.cell
            have f1 := hI3.by_.frozen
            have hI4 := hI3.putY (k := i + 1) hx.at_ (by rw [hx.shp]; exact Hasc.out) (by have h1 := hx.num; have h2 := HI.out.fy; omega)
            have HI4 := Lib.hid hI4; clear hI4 hI3 hx hk3
            refine RegG.can_frees (fun _ => trivial) ?_
            intro K K0 hK hK0
            go_simp
            refine hK (fun _ => True) _ _ trivial ?_
            clear hK K hK0 K0
            refine RegG.can_calm ?_
            go_wp2_with fail
            go_roundw
            case rel => exact ⟨i + 1, X, hlt, rfl, HI4.out⟩
            case measure => simp [intOf]; omega
          · have hlt' : ¬ (i : Int) < (l1 : Int) := by omega
            obtain rfl : i = l1 := by omega
            clear hlt hlt' hi
            obtain ⟨Y0, hX⟩ : ∃ q, q = Z := ⟨_, rfl⟩
            subst hX
            obtain ⟨j0, hX⟩ : ∃ q, q = i := ⟨_, rfl⟩
            subst hX
            clear H0 H1 Hsz0 Hsz1 HX
            obtain ⟨wq, hX⟩ : ∃ q, q = wr := ⟨_, rfl⟩
            subst hX
            go_upto_region 14 with fail
            have hbn := (BoxAt.new wq (.int .i64 0) 3).below ((Below.refl _ _).alloc (Nat.le_refl _) (.cells #[.string ByteArray.empty] 9))
            have hbl := BoxAt.new (wq.alloc (.cells #[.int .i64 0] 3)) (.string ByteArray.empty) 9
            rw [World.size_alloc] at hbl
            have hb5 : Below wq.heap.size wq ((wq.alloc (.cells #[.int .i64 0] 3)).alloc (.cells #[.string ByteArray.empty] 9)) := ((Below.refl _ _).alloc (Nat.le_refl _) _).alloc (by simp) _
            have hs5 : ((wq.alloc (.cells #[.int .i64 0] 3)).alloc (.cells #[.string ByteArray.empty] 9)).heap.size = wq.heap.size + 2 := by simp
            change Code.wp _ _ _ _ ((wq.alloc (.cells #[.int .i64 0] 3)).alloc (.cells #[.string ByteArray.empty] 9))
            generalize (wq.alloc (.cells #[.int .i64 0] 3)).alloc (.cells #[.string ByteArray.empty] 9) = w5 at *
            have f0 := (HI.out.bx.below hb5).cell
            obtain ⟨P1, hP1⟩ : ∃ P, X0.ptr = P := ⟨_, rfl⟩
            rw [hP1] at f0
            have HP1 := Lib.hid hP1; clear hP1
            have Hbn := Lib.hid hbn; clear hbn
            have Hbl := Lib.hid hbl; clear hbl
            have Hb5 := Lib.hid hb5; clear hb5
            have Hall := Lib.hid (callsIn_wide.1 (all_in 1 P1 w5))
            have hseq := seq_some
            go_wp2_with ((with_reducible refine Hall.out.mono ?_); rintro e w' ⟨rfl, rfl⟩)
            clear hseq f0
            have hA5 : TreeAt w5 X0 := (HI.out.below Hb5.out).tx
            have hu1 : Below w5.heap.size w5 (w5.alloc (.cells #[.pointer P1] 58)) := (Below.refl _ _).alloc (Nat.le_refl _) _
            have hs6 : (w5.alloc (.cells #[.pointer P1] 58)).heap.size = wq.heap.size + 3 := by simp [hs5]
            have hbt := BoxAt.new w5 (.pointer P1) 58
            rw [hs5] at hbt
            generalize w5.alloc (.cells #[.pointer P1] 58) = w6 at *
            have hlo : X0.Lo wq.heap.size := HI.out.tx.lo
            have hI0 : AllI wq [] w6 := ⟨Hbn.out.below hu1, Hbl.out.below hu1, Hb5.out.trans (hu1.mono Hb5.out.size)⟩
            have hstops := all_stops (mm - 1) (wq.heap.size + 2) wq.heap.size (wq.heap.size + 3) X0 w6 (by omega) (by omega) (by omega) (by rw [HP1.out]; exact hbt.cell) (hA5.below hu1) hlo
            have hkl : X0.kvs.length = X0.cnt := by rw [sh_cnt, cnt_kv]; rfl
            clear Hbn Hbl Hb5 Hall hA5 hbt hlo hu1
            have Hstops := Lib.hid hstops; clear hstops
            have HI0 := Lib.hid hI0; clear hI0
            refine (wpIn_wide (n := mm)).1 ?_
            refine Range.wpIn_range_break (F := Fence.wide) 4 rfl (by omega) (gf := 74) (lb := #[.pointer (some ⟨wq.heap.size + 2, 0, none⟩)]) rfl trivial (enters_of Try.func74 (by kernel_rfl) rfl)
              Hstops.out (fun h k => h.trans k) (keepC_b (by omega)) (Below.refl _ _) (fun _ => rfl)
              (AllI wq) (IxA X0 mo wq) (AllI.own (by omega)) (fun c => IxA.own (by omega)) HI0.out ?round (BehA X0 mo wq) ?t1 ?t2 ?no (fun _ _ h => by simpa [Exit.inBlock] using h) ?rest
            case t1 =>
              rintro xs W rfl hi
              exact ⟨hi, by omega, .inl hkl⟩
            case t2 =>
              rintro pre W hp (⟨hc, _⟩ | ⟨_, h1, h2⟩)
              · cases hc
              · exact ⟨h1, by have := hp.length_le; omega, .inr h2⟩
            case no =>
              rintro c pre W hne hp (⟨_, p, x, rfl, hbad⟩ | ⟨h1, _⟩)
              · exact hbad (good_all HI.out.ax hp)
              · exact hne h1
            case round =>
              rintro l pre x W hi hlen
              clear HI0 Hstops
              obtain ⟨xk, xv⟩ := x
              have Hi := Lib.hid hi; clear hi
              gi_wp2
              refine ⟨KeepsFrom.refl _ _, KeepC.refl _ _ _, fun W2 hT => ?_⟩
              have hi2 : AllI wq pre W2 := ⟨turned_cells hT Hi.out.bn, turned_cells hT Hi.out.bl, Hi.out.bel.trans (turned_below (by omega) hT)⟩
              have lv2 := HI.out.below hi2.bel
              clear hT Hi
              have hget := get_any xk X0 W2 lv2.tx
              rw [HP1.out] at hget
              have f0 := hi2.bn.cell
              have f1 := hi2.bn.frozen
              have f2 := hi2.bl.cell
              have f3 := hi2.bl.frozen
              have f4 := lv2.bm.cell
              have f5 := lv2.br.cell
              have f6 := lv2.br.frozen
              have f7 := lv2.bx.cell
              rw [HP1.out] at f7
              have hlq := HI.out.by_.lt
              have hn1 : ¬ w.heap.size = wq.heap.size := by omega
              have hn2 : ¬ w.heap.size = wq.heap.size + 1 := by omega
              have hn3 : ¬ wq.heap.size = w.heap.size := by omega
              have hn4 : ¬ wq.heap.size + 1 = w.heap.size := by omega
              have hcv : IntKind.i64.wrap (mo.toNat : Int) = (mo.toNat : Int) := by have := mo.isLt; rw [IntKind.wrap_i64] <;> omega
              have hkeep : KeepC wq.heap.size (wq.heap.size + 3) W2 ((W2.setCell ⟨wq.heap.size + 1, 0, none⟩ (.string xk)).setCell ⟨wq.heap.size, 0, none⟩ (.int .i64 ((pre.length + 1 : Nat) : Int))) :=
                ⟨below_set (below_set (Below.refl _ _) (by omega)) (Nat.le_refl _), fun p cs t f hp e => (Below.heap_setCell _ _ _ _ (by show p ≠ wq.heap.size; omega)).trans ((Below.heap_setCell _ _ _ _ (by show p ≠ wq.heap.size + 1; omega)).trans e)⟩
              have hend : AllI wq (pre ++ [(xk, xv)]) ((W2.setCell ⟨wq.heap.size + 1, 0, none⟩ (.string xk)).setCell ⟨wq.heap.size, 0, none⟩ (.int .i64 ((pre.length + 1 : Nat) : Int))) := by
                refine ⟨?_, ?_, below_set (below_set hi2.bel (by omega)) (Nat.le_refl _)⟩
                · rw [List.length_append]
                  exact BoxAt.set (hi2.bn.other (by omega))
                · rw [List.map_append]
                  show BoxAt _ _ (.string (lastOf (pre.map (·.1) ++ [xk]))) _
                  rw [lastOf_snoc]
                  exact BoxAt.other (BoxAt.set hi2.bl) (by omega)
              have hsucc := tsucc (n := pre.length) (by have h1 := HI.out.fx; omega)
              obtain ⟨q, hq⟩ : ∃ q, pre.length = q := ⟨_, rfl⟩
              obtain ⟨la, hla⟩ : ∃ k, lastOf (pre.map (·.1)) = k := ⟨_, rfl⟩
              rw [hq] at f0 hsucc hkeep hend
              rw [hla] at f2
              have hgood : GoodA X0 pre (xk, xv) ↔ (q = 0 ∨ slt la xk = true) ∧ X0.look xk = some xv := by
                unfold GoodA
                rw [hla, ← hq, List.length_eq_zero_iff]
              have Hq := Lib.hid hq; clear hq hla
              have Hkeep := Lib.hid hkeep; clear hkeep
              have Hend := Lib.hid hend; clear hend hi2 lv2
              by_cases hord : q = 0 ∨ slt la xk = true
              · have hz : q = 0 ∨ (0 < q ∧ Op.bytesLess xk.toList la.toList = false ∧ (xk.toList == la.toList) = false) := by
                  rcases Nat.eq_zero_or_pos q with h | h
                  · exact .inl h
                  · have h1 := hord.resolve_left (by omega)
                    exact .inr ⟨h, slt_asymm h1, txt_ne (fun e => slt_ne h1 e.symm)⟩
                cases hlk : X0.look xk with
                | none =>
                  rw [hlk] at hget
                  have Hget := Lib.hid hget; clear hget
                  have Hbad := Lib.hid (show ¬ GoodA X0 pre (xk, xv) from fun h => by have := (hgood.1 h).2; rw [hlk] at this; cases this)
                  clear hgood hlk hord
                  rcases hz with rfl | ⟨hz, hb, hb2⟩
                  · skip
                    gi_wp2_with (refine ⟨trivial, (fun h => (by cases h)), ?_⟩; refine (calls_round Hget.out).mono ?_; rintro e w' ⟨rfl, rfl⟩)
                    exact ⟨keepsFrom_set (KeepsFrom.refl _ _), .inl ⟨rfl, pre, _, rfl, Hbad.out⟩⟩
                  · have hz' : (0 : Int) < (q : Int) := by omega
                    gi_wp2_with (refine ⟨trivial, (fun h => (by cases h)), ?_⟩; refine (calls_round Hget.out).mono ?_; rintro e w' ⟨rfl, rfl⟩)
                    exact ⟨keepsFrom_set (KeepsFrom.refl _ _), .inl ⟨rfl, pre, _, rfl, Hbad.out⟩⟩
                | some u =>
                  rw [hlk] at hget
                  have Hget := Lib.hid hget; clear hget
                  by_cases hv : u = xv
                  · subst hv
                    clear hgood hlk hord
                    rcases hz with rfl | ⟨hz, hb, hb2⟩
                    · skip
                      by_cases hmo : mo.toNat ≤ 0 + 1
                      · have hmo' : (mo.toNat : Int) ≤ ((0 + 1 : Nat) : Int) := by omega
                        gi_wp2_with (refine ⟨trivial, (fun h => (by cases h)), ?_⟩; refine (calls_round Hget.out).mono ?_; rintro e w' ⟨rfl, rfl⟩)
                        exact ⟨keepsFrom_set (keepsFrom_set (KeepsFrom.refl _ _)), .inr ⟨rfl, Hend.out, by rw [List.length_append, Hq.out]; exact hmo⟩⟩
                      · have hmo' : ¬ (mo.toNat : Int) ≤ ((0 + 1 : Nat) : Int) := by omega
                        gi_wp2_with (refine ⟨trivial, (fun h => (by cases h)), ?_⟩; refine (calls_round Hget.out).mono ?_; rintro e w' ⟨rfl, rfl⟩)
                        exact ⟨keepsFrom_set (keepsFrom_set (KeepsFrom.refl _ _)), Hkeep.out, Hend.out⟩
                    · have hz' : (0 : Int) < (q : Int) := by omega
                      by_cases hmo : mo.toNat ≤ q + 1
                      · have hmo' : (mo.toNat : Int) ≤ ((q + 1 : Nat) : Int) := by omega
                        gi_wp2_with (refine ⟨trivial, (fun h => (by cases h)), ?_⟩; refine (calls_round Hget.out).mono ?_; rintro e w' ⟨rfl, rfl⟩)
                        exact ⟨keepsFrom_set (keepsFrom_set (KeepsFrom.refl _ _)), .inr ⟨rfl, Hend.out, by rw [List.length_append, Hq.out]; exact hmo⟩⟩
                      · have hmo' : ¬ (mo.toNat : Int) ≤ ((q + 1 : Nat) : Int) := by omega
                        gi_wp2_with (refine ⟨trivial, (fun h => (by cases h)), ?_⟩; refine (calls_round Hget.out).mono ?_; rintro e w' ⟨rfl, rfl⟩)
                        exact ⟨keepsFrom_set (keepsFrom_set (KeepsFrom.refl _ _)), Hkeep.out, Hend.out⟩
                  · have Hbad := Lib.hid (show ¬ GoodA X0 pre (xk, xv) from fun h => hv (by have := (hgood.1 h).2; rw [hlk] at this; cases this; rfl))
                    have hvt := txt_ne hv
                    clear hgood hlk hord hv
                    rcases hz with rfl | ⟨hz, hb, hb2⟩
                    · skip
                      gi_wp2_with (refine ⟨trivial, (fun h => (by cases h)), ?_⟩; refine (calls_round Hget.out).mono ?_; rintro e w' ⟨rfl, rfl⟩)
                      exact ⟨keepsFrom_set (KeepsFrom.refl _ _), .inl ⟨rfl, pre, _, rfl, Hbad.out⟩⟩
                    · have hz' : (0 : Int) < (q : Int) := by omega
                      gi_wp2_with (refine ⟨trivial, (fun h => (by cases h)), ?_⟩; refine (calls_round Hget.out).mono ?_; rintro e w' ⟨rfl, rfl⟩)
                      exact ⟨keepsFrom_set (KeepsFrom.refl _ _), .inl ⟨rfl, pre, _, rfl, Hbad.out⟩⟩
              · have Hbad := Lib.hid (show ¬ GoodA X0 pre (xk, xv) from fun h => hord (hgood.1 h).1)
                have hz : 0 < q := by
                  rcases Nat.eq_zero_or_pos q with h | h
                  · exact absurd (.inl h) hord
                  · exact h
                have hb : Op.bytesLess xk.toList la.toList = true ∨ xk = la := by
                  cases h : slt la xk with
                  | true => exact absurd (.inr h) hord
                  | false =>
                    cases h2 : slt xk la with
                    | true => exact .inl h2
                    | false => exact .inr (slt_total h2 h)
                have hz' : (0 : Int) < (q : Int) := by omega
                have Hget := Lib.hid hget; clear hget
                clear hgood hord
                rcases hb with hb | rfl
                · gi_wp2_with (refine ⟨trivial, (fun h => (by cases h)), ?_⟩; refine (calls_round Hget.out).mono ?_; rintro e w' ⟨rfl, rfl⟩)
                  exact ⟨keepsFrom_set (KeepsFrom.refl _ _), .inl ⟨rfl, pre, _, rfl, Hbad.out⟩⟩
                · gi_wp2_with (refine ⟨trivial, (fun h => (by cases h)), ?_⟩; refine (calls_round Hget.out).mono ?_; rintro e w' ⟨rfl, rfl⟩)
                  exact ⟨keepsFrom_set (KeepsFrom.refl _ _), .inl ⟨rfl, pre, _, rfl, Hbad.out⟩⟩
            case rest =>
              rintro E pre W hE ⟨hall, hle, hor⟩ hK
              have lvW := HI.out.below hall.bel
              obtain ⟨la, hla⟩ : ∃ k, lastOf (pre.map (·.1)) = k := ⟨_, rfl⟩
              obtain ⟨nN, hnN⟩ : ∃ q, pre.length = q := ⟨_, rfl⟩
              obtain ⟨hbn, hbl, hbq⟩ := hall
              rw [hla] at hbl
              rw [hnN] at hbn hle hor
              have hEl : E < W.heap.size := (Array.getElem?_eq_some_iff.1 hK).1
              have hEw : w.heap.size + 4 ≤ E := by have := HI.out.by_.lt; omega
              clear HI0 Hstops hla hnN hE
              obtain ⟨P2, hP2⟩ : ∃ P, Y0.ptr = P := ⟨_, rfl⟩
              have HP2 := Lib.hid hP2; clear hP2
              have Hbn := Lib.hid hbn; clear hbn
              have Hbl := Lib.hid hbl; clear hbl
              have Hbq := Lib.hid hbq; clear hbq
              have HK := Lib.hid hK; clear hK
              have HlvW := Lib.hid lvW; clear lvW
              dsimp only
              go_upto_region 27 with fail
              have hbm := BoxAt.new W (.int .i64 0) 3
              have hu8 : Below W.heap.size W (W.alloc (.cells #[.int .i64 0] 3)) := (Below.refl _ _).alloc (Nat.le_refl _) _
              have hs8 : (W.alloc (.cells #[.int .i64 0] 3)).heap.size = W.heap.size + 1 := by simp
              generalize W.alloc (.cells #[.int .i64 0] 3) = w8 at *
              have lv8 := HlvW.out.below hu8
              have f0 := lv8.bx.cell
              rw [HP1.out] at f0
              have f1 := lv8.by_.cell
              rw [HP2.out] at f1
              have Hdf := Lib.hid (callsIn_wide.1 (diff_in 1 P1 P2 w8))
              have Hbm := Lib.hid hbm; clear hbm
              have Hu8 := Lib.hid hu8; clear hu8
              clear lv8
              have hseq := dseq_some
              go_wp2_with ((with_reducible refine Hdf.out.mono ?_); rintro e w' ⟨rfl, rfl⟩)
              clear hseq f0 f1
              have lv8 := HlvW.out.below Hu8.out
              have hu9 : Below w8.heap.size w8 ((w8.alloc (.cells #[.pointer P1] 58)).alloc (.cells #[.pointer P2] 58)) := ((Below.refl _ _).alloc (Nat.le_refl _) _).alloc (by simp) _
              have hs9 : ((w8.alloc (.cells #[.pointer P1] 58)).alloc (.cells #[.pointer P2] 58)).heap.size = W.heap.size + 3 := by simp [hs8]
              have hba := (BoxAt.new w8 (.pointer P1) 58).below ((Below.refl _ _).alloc (Nat.le_refl _) (.cells #[.pointer P2] 58))
              have hbb := BoxAt.new (w8.alloc (.cells #[.pointer P1] 58)) (.pointer P2) 58
              rw [World.size_alloc, hs8] at hbb
              rw [hs8] at hba
              generalize (w8.alloc (.cells #[.pointer P1] 58)).alloc (.cells #[.pointer P2] 58) = w9 at *
              have hloA : X0.Lo wq.heap.size := HI.out.tx.lo
              have hloB : Y0.Lo wq.heap.size := HI.out.ty.lo
              have hqW := Hbq.out.size
              have hlW := Hbl.out.lt
              obtain ⟨D, hD⟩ : ∃ D, diffL X0.kvs Y0.kvs = D := ⟨_, rfl⟩
              have hcx : X0.cnt ≤ 300 := by have := HI.out.fx; omega
              have hcy : Y0.cnt ≤ 300 := by have := HI.out.fy; omega
              have hDl : D.length ≤ X0.cnt + Y0.cnt := by
                have h1 := diff_len _ (Nat.le_refl (X0.kvs.length + Y0.kvs.length))
                have h2 : Y0.kvs.length = Y0.cnt := by rw [sh_cnt, cnt_kv]; rfl
                rw [hD] at h1
                omega
              have hu89 : Below W.heap.size W w9 := Hu8.out.trans (hu9.mono Hu8.out.size)
              have hI0 : DfI wq W.heap.size nN E la [] w9 := ⟨Hbm.out.below hu9, Hbl.out.below hu89, Hbn.out.below hu89, Hbq.out.trans (hu89.mono hqW), (hu89.block E hEl).trans HK.out⟩
              have hstops := diff_stops (mm - 1) (W.heap.size + 1) (W.heap.size + 1 + 1) wq.heap.size (W.heap.size + 3) X0 Y0 w9 (by omega) (by omega) (by omega) (by omega) (by rw [HP1.out]; exact hba.cell) (by rw [HP2.out]; exact hbb.cell) (lv8.tx.below hu9) (lv8.ty.below hu9) hloA.outOf hloB.outOf HI.out.ax HI.out.ay (by omega)
              rw [hD] at hstops
              have hgd : ∀ (p : List Chg) (x : Chg), p ++ [x] <+: D → GoodD X0 Y0 p x := fun p x h => good_diff HI.out.ax HI.out.ay (by rw [hD]; exact h)
              clear Hbm Hu8 lv8 hu9 hba hbb hloA hloB Hdf hu89 hD
              have Hstops := Lib.hid hstops; clear hstops
              have HI0 := Lib.hid hI0; clear hI0
              have Hgd := Lib.hid hgd; clear hgd
              refine (wpIn_wide (n := mm)).1 ?_
              refine Range.wpIn_range_break (F := Fence.wide) 6 rfl (by omega) (gf := 66) (lb := #[.pointer (some ⟨W.heap.size + 1, 0, none⟩), .pointer (some ⟨W.heap.size + 1 + 1, 0, none⟩)]) rfl trivial (enters_of Try.func66 (by kernel_rfl) rfl)
                Hstops.out (fun h k => h.trans k) (keepC_b (by omega)) (Below.refl _ _) (fun _ => rfl)
                (DfI wq W.heap.size nN E la) (IxD X0 Y0 wq W.heap.size nN E la) (DfI.own (by omega) (by omega)) (fun c => IxD.own (by omega) (by omega)) HI0.out ?round (fun pre2 V => DfI wq W.heap.size nN E la pre2 V ∧ pre2.length ≤ X0.cnt + Y0.cnt) ?t1 ?t2 ?no (fun _ _ h => by simpa [Exit.inBlock] using h) ?rest
              case t1 =>
                rintro xs V rfl hi
                exact ⟨hi, hDl⟩
              case t2 =>
                rintro pre2 V hp (⟨hc, _⟩ | ⟨_, h1⟩)
                · cases hc
                · exact ⟨h1, by have := hp.length_le; omega⟩
              case no =>
                rintro c pre2 V hne hp (⟨_, p, x, rfl, hbad⟩ | ⟨h1, _⟩)
                · exact hbad (Hgd.out _ _ hp)
                · exact hne h1
              case round =>
                rintro l pre2 x V hi hlen
                clear HI0 Hstops Hgd
                obtain ⟨xk, xo, xn, xa, xb⟩ := x
                have Hi := Lib.hid hi; clear hi
                dsimp only [chgV, chgCells]
                gi_wp2
                have hbW : Below V.heap.size V (V.alloc (.cells (chgCells xo xn xa xb) 81)) := (Below.refl _ _).alloc (Nat.le_refl _) _
                have hnW : ChgAt (V.alloc (.cells (chgCells xo xn xa xb) 81)) V.heap.size xo xn xa xb := heap_alloc_new V _
                have hlV := Hi.out.bm.lt
                have hqV := Hi.out.bel.size
                refine ⟨keepsFrom_below hbW, KeepC.of_below hbW (by omega), fun V2 hT => ?_⟩
                have hT' : Range.Turned w9.heap.size l (V.alloc (.cells (chgCells xo xn xa xb) 81)) V2 := hT
                have hdk : V2.heap[E]? = some (.deferred (some [])) := by
                  obtain ⟨h1, o, o', h2, _, _, h5⟩ := hT'
                  rw [h5]
                  exact (World.putObj_heap_other (by omega)).trans ((hbW.block E (by omega)).trans Hi.out.dk)
                have hi2 : DfI wq W.heap.size nN E la pre2 V2 := ⟨turned_cells hT' (Hi.out.bm.below hbW), turned_cells hT' (Hi.out.bl.below hbW), turned_cells hT' (Hi.out.bn.below hbW), (Hi.out.bel.trans (hbW.mono hqV)).trans (turned_below (by omega) hT'), hdk⟩
                have hn2 : ChgAt V2 V.heap.size xo xn xa xb := turned_cells hT' hnW
                have lv2 := HI.out.below hi2.bel
                generalize V.heap.size = g9 at *
                clear hT hT' hbW hnW Hi hdk
                have hgx := get_any xk X0 V2 lv2.tx
                have hgy := get_any xk Y0 V2 lv2.ty
                rw [HP1.out] at hgx
                rw [HP2.out] at hgy
                have f0 := hi2.bm.cell
                have f1 := hi2.bm.frozen
                have f2 := hi2.bl.cell
                have f3 := hi2.bl.frozen
                have f4 := lv2.bm.cell
                have f5 := lv2.br.cell
                have f6 := lv2.br.frozen
                have f7 := lv2.bx.cell
                have f8 := lv2.by_.cell
                rw [HP1.out] at f7
                rw [HP2.out] at f8
                obtain ⟨q0, q1, q2, q3⟩ := hn2.cells
                have hlq := HI.out.by_.lt
                have hn1 : ¬ w.heap.size = wq.heap.size + 1 := by omega
                have hn2' : ¬ w.heap.size = W.heap.size := by omega
                have hn3 : ¬ wq.heap.size + 1 = w.heap.size := by omega
                have hn4 : ¬ W.heap.size = w.heap.size := by omega
                have hn5 : ¬ W.heap.size = wq.heap.size + 1 := by omega
                have hn6 : ¬ wq.heap.size + 1 = W.heap.size := by omega
                have hcv : IntKind.i64.wrap (mo.toNat : Int) = (mo.toNat : Int) := by have := mo.isLt; rw [IntKind.wrap_i64] <;> omega
                have hkeep : KeepC wq.heap.size (W.heap.size + 3) V2 ((V2.setCell ⟨wq.heap.size + 1, 0, none⟩ (.string xk)).setCell ⟨W.heap.size, 0, none⟩ (.int .i64 ((pre2.length + 1 : Nat) : Int))) :=
                  ⟨below_set (below_set (Below.refl _ _) (by omega)) (by omega), fun p cs t f hp e => (Below.heap_setCell _ _ _ _ (by show p ≠ W.heap.size; omega)).trans ((Below.heap_setCell _ _ _ _ (by show p ≠ wq.heap.size + 1; omega)).trans e)⟩
                have hend : DfI wq W.heap.size nN E la (pre2 ++ [⟨xk, xo, xn, xa, xb⟩]) ((V2.setCell ⟨wq.heap.size + 1, 0, none⟩ (.string xk)).setCell ⟨W.heap.size, 0, none⟩ (.int .i64 ((pre2.length + 1 : Nat) : Int))) := by
                  have hEm : E ≠ W.heap.size := by omega
                  have hEl2 : E ≠ wq.heap.size + 1 := fun e => by
                    have h1 := hi2.dk
                    have h2 := hi2.bl
                    unfold BoxAt at h2
                    rw [← e, h1] at h2
                    cases h2
                  refine ⟨?_, ?_, (hi2.bn.other (by omega)).other (by omega), below_set (below_set hi2.bel (by omega)) (by omega), (Below.heap_setCell _ _ _ _ (by exact hEm)).trans ((Below.heap_setCell _ _ _ _ (by exact hEl2)).trans hi2.dk)⟩
                  · rw [List.length_append]
                    exact BoxAt.set (hi2.bm.other (by omega))
                  · rw [List.map_append]
                    have : ((pre2.map (·.key) ++ [(⟨xk, xo, xn, xa, xb⟩ : Chg)].map (·.key)).getLast?.getD la) = xk := by simp
                    rw [this]
                    exact BoxAt.other (BoxAt.set hi2.bl) (by omega)
                have hsucc := tsucc (n := pre2.length) (by omega)
                obtain ⟨lk, hlk⟩ : ∃ k, (pre2.map (·.key)).getLast?.getD la = k := ⟨_, rfl⟩
                obtain ⟨q, hq⟩ : ∃ q, pre2.length = q := ⟨_, rfl⟩
                rw [hq] at f0 hsucc hkeep hend
                rw [hlk] at f2
                have hord : GoodD X0 Y0 pre2 ⟨xk, xo, xn, xa, xb⟩ → q = 0 ∨ slt lk xk = true := fun h => by
                  rcases h.1 with h | h
                  · exact .inl (by rw [← hq, h]; rfl)
                  · rcases Nat.eq_zero_or_pos q with h0 | h0
                    · exact .inl h0
                    · refine .inr ?_
                      rw [← hlk, last_or (by intro e; rw [List.map_eq_nil_iff] at e; rw [e] at hq; simp at hq; omega)]
                      exact h
                have hgood : GoodD X0 Y0 pre2 ⟨xk, xo, xn, xa, xb⟩ → xo = (X0.look xk).getD ByteArray.empty ∧ xn = (Y0.look xk).getD ByteArray.empty ∧ xa = (X0.look xk).isSome ∧ xb = (Y0.look xk).isSome := fun h => by
                  have h1 := h.2.1
                  rw [sh_look, sh_look]
                  simp only [chgOf] at h1
                  injection h1 with _ h2 h3 h4 h5
                  exact ⟨h2, h3, h4, h5⟩
                have hreal : xa = true → xb = true → xo = xn → ¬ GoodD X0 Y0 pre2 ⟨xk, xo, xn, xa, xb⟩ := fun h1 h2 h3 h => by
                  have := h.2.2
                  simp [Chg.real, h1, h2, h3] at this
                generalize (X0.look xk).getD ByteArray.empty = vx at *
                generalize (Y0.look xk).getD ByteArray.empty = vy at *
                generalize (X0.look xk).isSome = hx at *
                generalize (Y0.look xk).isSome = hy at *
                have Hgx := Lib.hid hgx; clear hgx
                have Hgy := Lib.hid hgy; clear hgy
                have Hq := Lib.hid hq; clear hq hlk hlen
                have Hkeep := Lib.hid hkeep; clear hkeep
                have Hend := Lib.hid hend; clear hend hi2 lv2 hn2
                by_cases hod : q = 0 ∨ slt lk xk = true
                · have hz : q = 0 ∨ (0 < q ∧ Op.bytesLess xk.toList lk.toList = false ∧ (xk.toList == lk.toList) = false) := by
                    rcases Nat.eq_zero_or_pos q with h | h
                    · exact .inl h
                    · have h1 := hod.resolve_left (by omega)
                      exact .inr ⟨h, slt_asymm h1, txt_ne (fun e => slt_ne h1 e.symm)⟩
                  clear hord hod
                  rcases hz with rfl | ⟨hz, hb, hb2⟩
                  · skip
                    by_cases e1 : xo = vx
                    · subst e1
                      by_cases e2 : xn = vy
                      · subst e2
                        by_cases e3 : xa = hx
                        · subst e3
                          by_cases e4 : xb = hy
                          · subst e4
                            clear hgood
                            cases xa with
                            | false =>
                              gi_wp2_with (refine ⟨trivial, (fun h => (by cases h)), ?_⟩; first | ((with_reducible refine (calls_round Hgx.out).mono ?_); rintro e w' ⟨rfl, rfl⟩) | ((with_reducible refine (calls_round Hgy.out).mono ?_); rintro e w' ⟨rfl, rfl⟩))
                              · exact ⟨keepsFrom_set (keepsFrom_set (KeepsFrom.refl _ _)), .inr ⟨rfl, Hend.out⟩⟩
                              · exact ⟨keepsFrom_set (keepsFrom_set (KeepsFrom.refl _ _)), Hkeep.out, Hend.out⟩
                            | true =>
                              cases xb with
                              | false =>
                                gi_wp2_with (refine ⟨trivial, (fun h => (by cases h)), ?_⟩; first | ((with_reducible refine (calls_round Hgx.out).mono ?_); rintro e w' ⟨rfl, rfl⟩) | ((with_reducible refine (calls_round Hgy.out).mono ?_); rintro e w' ⟨rfl, rfl⟩))
                                · exact ⟨keepsFrom_set (keepsFrom_set (KeepsFrom.refl _ _)), .inr ⟨rfl, Hend.out⟩⟩
                                · exact ⟨keepsFrom_set (keepsFrom_set (KeepsFrom.refl _ _)), Hkeep.out, Hend.out⟩
                              | true =>
                                by_cases e5 : xo = xn
                                · subst e5
                                  have Hbad := Lib.hid (hreal rfl rfl rfl)
                                  gi_wp2_with (refine ⟨trivial, (fun h => (by cases h)), ?_⟩; first | ((with_reducible refine (calls_round Hgx.out).mono ?_); rintro e w' ⟨rfl, rfl⟩) | ((with_reducible refine (calls_round Hgy.out).mono ?_); rintro e w' ⟨rfl, rfl⟩))
                                  exact ⟨keepsFrom_set (KeepsFrom.refl _ _), .inl ⟨rfl, pre2, _, rfl, Hbad.out⟩⟩
                                · have e5' := txt_ne e5
                                  gi_wp2_with (refine ⟨trivial, (fun h => (by cases h)), ?_⟩; first | ((with_reducible refine (calls_round Hgx.out).mono ?_); rintro e w' ⟨rfl, rfl⟩) | ((with_reducible refine (calls_round Hgy.out).mono ?_); rintro e w' ⟨rfl, rfl⟩))
                                  · exact ⟨keepsFrom_set (keepsFrom_set (KeepsFrom.refl _ _)), .inr ⟨rfl, Hend.out⟩⟩
                                  · exact ⟨keepsFrom_set (keepsFrom_set (KeepsFrom.refl _ _)), Hkeep.out, Hend.out⟩
                          · have Hbad := Lib.hid (show ¬ GoodD X0 Y0 pre2 ⟨xk, xo, xn, xa, xb⟩ from fun h => e4 (hgood h).2.2.2)
                            clear hgood hreal
                            gi_wp2_with (refine ⟨trivial, (fun h => (by cases h)), ?_⟩; first | ((with_reducible refine (calls_round Hgx.out).mono ?_); rintro e w' ⟨rfl, rfl⟩) | ((with_reducible refine (calls_round Hgy.out).mono ?_); rintro e w' ⟨rfl, rfl⟩))
                            exact ⟨keepsFrom_set (KeepsFrom.refl _ _), .inl ⟨rfl, pre2, _, rfl, Hbad.out⟩⟩
                        · have Hbad := Lib.hid (show ¬ GoodD X0 Y0 pre2 ⟨xk, xo, xn, xa, xb⟩ from fun h => e3 (hgood h).2.2.1)
                          clear hgood hreal
                          gi_wp2_with (refine ⟨trivial, (fun h => (by cases h)), ?_⟩; first | ((with_reducible refine (calls_round Hgx.out).mono ?_); rintro e w' ⟨rfl, rfl⟩) | ((with_reducible refine (calls_round Hgy.out).mono ?_); rintro e w' ⟨rfl, rfl⟩))
                          exact ⟨keepsFrom_set (KeepsFrom.refl _ _), .inl ⟨rfl, pre2, _, rfl, Hbad.out⟩⟩
                      · have Hbad := Lib.hid (show ¬ GoodD X0 Y0 pre2 ⟨xk, xo, xn, xa, xb⟩ from fun h => e2 (hgood h).2.1)
                        have e2' := fun e => e2 (tl_inj e)
                        clear hgood hreal e2
                        gi_wp2_with (refine ⟨trivial, (fun h => (by cases h)), ?_⟩; first | ((with_reducible refine (calls_round Hgx.out).mono ?_); rintro e w' ⟨rfl, rfl⟩) | ((with_reducible refine (calls_round Hgy.out).mono ?_); rintro e w' ⟨rfl, rfl⟩))
                        exact ⟨keepsFrom_set (KeepsFrom.refl _ _), .inl ⟨rfl, pre2, _, rfl, Hbad.out⟩⟩
                    · have Hbad := Lib.hid (show ¬ GoodD X0 Y0 pre2 ⟨xk, xo, xn, xa, xb⟩ from fun h => e1 (hgood h).1)
                      have e1' := fun e => e1 (tl_inj e)
                      clear hgood hreal e1
                      gi_wp2_with (refine ⟨trivial, (fun h => (by cases h)), ?_⟩; first | ((with_reducible refine (calls_round Hgx.out).mono ?_); rintro e w' ⟨rfl, rfl⟩) | ((with_reducible refine (calls_round Hgy.out).mono ?_); rintro e w' ⟨rfl, rfl⟩))
                      exact ⟨keepsFrom_set (KeepsFrom.refl _ _), .inl ⟨rfl, pre2, _, rfl, Hbad.out⟩⟩
                  · have hz' : (0 : Int) < (q : Int) := by omega
                    by_cases e1 : xo = vx
                    · subst e1
                      by_cases e2 : xn = vy
                      · subst e2
                        by_cases e3 : xa = hx
                        · subst e3
                          by_cases e4 : xb = hy
                          · subst e4
                            clear hgood
                            cases xa with
                            | false =>
                              gi_wp2_with (refine ⟨trivial, (fun h => (by cases h)), ?_⟩; first | ((with_reducible refine (calls_round Hgx.out).mono ?_); rintro e w' ⟨rfl, rfl⟩) | ((with_reducible refine (calls_round Hgy.out).mono ?_); rintro e w' ⟨rfl, rfl⟩))
                              · exact ⟨keepsFrom_set (keepsFrom_set (KeepsFrom.refl _ _)), .inr ⟨rfl, Hend.out⟩⟩
                              · exact ⟨keepsFrom_set (keepsFrom_set (KeepsFrom.refl _ _)), Hkeep.out, Hend.out⟩
                            | true =>
                              cases xb with
                              | false =>
                                gi_wp2_with (refine ⟨trivial, (fun h => (by cases h)), ?_⟩; first | ((with_reducible refine (calls_round Hgx.out).mono ?_); rintro e w' ⟨rfl, rfl⟩) | ((with_reducible refine (calls_round Hgy.out).mono ?_); rintro e w' ⟨rfl, rfl⟩))
                                · exact ⟨keepsFrom_set (keepsFrom_set (KeepsFrom.refl _ _)), .inr ⟨rfl, Hend.out⟩⟩
                                · exact ⟨keepsFrom_set (keepsFrom_set (KeepsFrom.refl _ _)), Hkeep.out, Hend.out⟩
                              | true =>
                                by_cases e5 : xo = xn
                                · subst e5
                                  have Hbad := Lib.hid (hreal rfl rfl rfl)
                                  gi_wp2_with (refine ⟨trivial, (fun h => (by cases h)), ?_⟩; first | ((with_reducible refine (calls_round Hgx.out).mono ?_); rintro e w' ⟨rfl, rfl⟩) | ((with_reducible refine (calls_round Hgy.out).mono ?_); rintro e w' ⟨rfl, rfl⟩))
                                  exact ⟨keepsFrom_set (KeepsFrom.refl _ _), .inl ⟨rfl, pre2, _, rfl, Hbad.out⟩⟩
                                · have e5' := txt_ne e5
                                  gi_wp2_with (refine ⟨trivial, (fun h => (by cases h)), ?_⟩; first | ((with_reducible refine (calls_round Hgx.out).mono ?_); rintro e w' ⟨rfl, rfl⟩) | ((with_reducible refine (calls_round Hgy.out).mono ?_); rintro e w' ⟨rfl, rfl⟩))
                                  · exact ⟨keepsFrom_set (keepsFrom_set (KeepsFrom.refl _ _)), .inr ⟨rfl, Hend.out⟩⟩
                                  · exact ⟨keepsFrom_set (keepsFrom_set (KeepsFrom.refl _ _)), Hkeep.out, Hend.out⟩
                          · have Hbad := Lib.hid (show ¬ GoodD X0 Y0 pre2 ⟨xk, xo, xn, xa, xb⟩ from fun h => e4 (hgood h).2.2.2)
                            clear hgood hreal
                            gi_wp2_with (refine ⟨trivial, (fun h => (by cases h)), ?_⟩; first | ((with_reducible refine (calls_round Hgx.out).mono ?_); rintro e w' ⟨rfl, rfl⟩) | ((with_reducible refine (calls_round Hgy.out).mono ?_); rintro e w' ⟨rfl, rfl⟩))
                            exact ⟨keepsFrom_set (KeepsFrom.refl _ _), .inl ⟨rfl, pre2, _, rfl, Hbad.out⟩⟩
                        · have Hbad := Lib.hid (show ¬ GoodD X0 Y0 pre2 ⟨xk, xo, xn, xa, xb⟩ from fun h => e3 (hgood h).2.2.1)
                          clear hgood hreal
                          gi_wp2_with (refine ⟨trivial, (fun h => (by cases h)), ?_⟩; first | ((with_reducible refine (calls_round Hgx.out).mono ?_); rintro e w' ⟨rfl, rfl⟩) | ((with_reducible refine (calls_round Hgy.out).mono ?_); rintro e w' ⟨rfl, rfl⟩))
                          exact ⟨keepsFrom_set (KeepsFrom.refl _ _), .inl ⟨rfl, pre2, _, rfl, Hbad.out⟩⟩
                      · have Hbad := Lib.hid (show ¬ GoodD X0 Y0 pre2 ⟨xk, xo, xn, xa, xb⟩ from fun h => e2 (hgood h).2.1)
                        have e2' := fun e => e2 (tl_inj e)
                        clear hgood hreal e2
                        gi_wp2_with (refine ⟨trivial, (fun h => (by cases h)), ?_⟩; first | ((with_reducible refine (calls_round Hgx.out).mono ?_); rintro e w' ⟨rfl, rfl⟩) | ((with_reducible refine (calls_round Hgy.out).mono ?_); rintro e w' ⟨rfl, rfl⟩))
                        exact ⟨keepsFrom_set (KeepsFrom.refl _ _), .inl ⟨rfl, pre2, _, rfl, Hbad.out⟩⟩
                    · have Hbad := Lib.hid (show ¬ GoodD X0 Y0 pre2 ⟨xk, xo, xn, xa, xb⟩ from fun h => e1 (hgood h).1)
                      have e1' := fun e => e1 (tl_inj e)
                      clear hgood hreal e1
                      gi_wp2_with (refine ⟨trivial, (fun h => (by cases h)), ?_⟩; first | ((with_reducible refine (calls_round Hgx.out).mono ?_); rintro e w' ⟨rfl, rfl⟩) | ((with_reducible refine (calls_round Hgy.out).mono ?_); rintro e w' ⟨rfl, rfl⟩))
                      exact ⟨keepsFrom_set (KeepsFrom.refl _ _), .inl ⟨rfl, pre2, _, rfl, Hbad.out⟩⟩
                · have Hbad := Lib.hid (show ¬ GoodD X0 Y0 pre2 ⟨xk, xo, xn, xa, xb⟩ from fun h => hod (hord h))
                  have hz : 0 < q := by
                    rcases Nat.eq_zero_or_pos q with h | h
                    · exact absurd (.inl h) hod
                    · exact h
                  have hb : Op.bytesLess xk.toList lk.toList = true ∨ xk = lk := by
                    cases h : slt lk xk with
                    | true => exact absurd (.inr h) hod
                    | false =>
                      cases h2 : slt xk lk with
                      | true => exact .inl h2
                      | false => exact .inr (slt_total h2 h)
                  have hz' : (0 : Int) < (q : Int) := by omega
                  clear hgood hord hod hreal
                  rcases hb with hb | rfl
                  · skip
                    gi_wp2_with (refine ⟨trivial, (fun h => (by cases h)), ?_⟩; first | ((with_reducible refine (calls_round Hgx.out).mono ?_); rintro e w' ⟨rfl, rfl⟩) | ((with_reducible refine (calls_round Hgy.out).mono ?_); rintro e w' ⟨rfl, rfl⟩))
                    exact ⟨keepsFrom_set (KeepsFrom.refl _ _), .inl ⟨rfl, pre2, _, rfl, Hbad.out⟩⟩
                  · skip
                    gi_wp2_with (refine ⟨trivial, (fun h => (by cases h)), ?_⟩; first | ((with_reducible refine (calls_round Hgx.out).mono ?_); rintro e w' ⟨rfl, rfl⟩) | ((with_reducible refine (calls_round Hgy.out).mono ?_); rintro e w' ⟨rfl, rfl⟩))
                    exact ⟨keepsFrom_set (KeepsFrom.refl _ _), .inl ⟨rfl, pre2, _, rfl, Hbad.out⟩⟩
              case rest =>
                rintro E2 pre2 V hE2 ⟨hi, hle2⟩ hK2
                have lvV := HI.out.below hi.bel
                obtain ⟨mN, hmN⟩ : ∃ q, pre2.length = q := ⟨_, rfl⟩
                rw [hmN] at hle2
                have hEne : E ≠ E2 := by omega
                clear HI0 Hstops Hgd
                have hlq := HI.out.by_.lt
                have hfin : ∀ (A : Array Value) (w3 : World), A.getD 6 undef = .pointer (some ⟨w.heap.size + 1, 0, none⟩) → KeptW V w3 → bodyPostM Fence.wide mm Try.prog Try.f11 (fun e w' => e = .returned (.bool true) ∧ Below w.heap.size w w') .ret { tmps := A, defers := [{ target := .collected E2, args := #[] }, { target := .collected E, args := #[] }] } (w3.setCell ⟨w.heap.size + 1, 0, none⟩ (.bool true)) := fun A w3 hA hk3 => by
                  have l3 := lvV.below (KeptW.bel hk3)
                  have hd2 : w3.heap[E2]? = some (.deferred (some [])) := ((KeptW.bel hk3).block E2 (Array.getElem?_eq_some_iff.1 hK2).1).trans hK2
                  have hd1 : w3.heap[E]? = some (.deferred (some [])) := ((KeptW.bel hk3).block E (Array.getElem?_eq_some_iff.1 hi.dk).1).trans hi.dk
                  have hE1 : E ≠ w.heap.size + 1 := fun e => by
                    have h2 := l3.br
                    unfold BoxAt at h2
                    rw [← e, hd1] at h2
                    cases h2
                  have hE3 : E2 ≠ w.heap.size + 1 := by omega
                  have hx2 : (w3.setCell ⟨w.heap.size + 1, 0, none⟩ (.bool true)).heap[E2]? = some (.deferred (some [])) := (Below.heap_setCell _ _ _ _ (by exact hE3)).trans hd2
                  have hx1 : (w3.setCell ⟨w.heap.size + 1, 0, none⟩ (.bool true)).heap[E]? = some (.deferred (some [])) := (Below.heap_setCell _ _ _ _ (by exact hE1)).trans hd1
                  have hbx : BoxAt (w3.setCell ⟨w.heap.size + 1, 0, none⟩ (.bool true)) (w.heap.size + 1) (.bool true) 4 := l3.br.set
                  have hbl : Below w.heap.size w (w3.setCell ⟨w.heap.size + 1, 0, none⟩ (.bool true)) := below_set l3.bel (by omega)
                  generalize w3.setCell ⟨w.heap.size + 1, 0, none⟩ (.bool true) = W6 at *
                  have hy1 : (W6.putObj E2 (.deferred none)).heap[E]? = some (.deferred (some [])) := (World.putObj_heap_other hEne).trans hx1
                  have hc2 := cell_kept hbx.cell (grownBy_putObj' W6 E2 (.deferred none)) (fun r e => by cases e; exact ⟨_, hx2, rfl⟩)
                  have hb2 : Below w.heap.size w (W6.putObj E2 (.deferred none)) := hbl.trans (belowK_b (w := w) (Nat.le_refl _) W6 E2 _ _ (by omega) hx2 rfl rfl)
                  have hbx7 : BoxAt (W6.putObj E2 (.deferred none)) (w.heap.size + 1) (.bool true) 4 := (World.putObj_heap_other (by omega)).trans hbx
                  have hc3 := cell_kept hbx7.cell (grownBy_putObj' (W6.putObj E2 (.deferred none)) E (.deferred none)) (fun r e => by cases e; exact ⟨_, hy1, rfl⟩)
                  have hb4 : Below w.heap.size w ((W6.putObj E2 (.deferred none)).putObj E (.deferred none)) := hb2.trans (belowK_b (w := w) (Nat.le_refl _) (W6.putObj E2 (.deferred none)) E _ _ (by omega) hy1 rfl rfl)
                  refine ⟨by simp, .inl ⟨_, _, rfl, run_takeDeferred hx2, ?_⟩⟩
                  refine ⟨by simp, .inl ⟨_, _, rfl, run_takeDeferred hy1, ?_⟩⟩
                  refine ⟨.bool true, ?_, rfl, hb4⟩
                  have hA' : A[6]?.getD undef = .pointer (some ⟨w.heap.size + 1, 0, none⟩) := by simpa using hA
                  simp [results, Try.results11, go_sem, hA', hc3]
                have Hfin := Lib.hid hfin; clear hfin
                have hlx := len_any X0 V.drew (lvV.tx.drew)
                have hly := len_any Y0 V.drew (lvV.ty.drew)
                rw [HP1.out] at hlx
                rw [HP2.out] at hly
                have Hlx := Lib.hid hlx; clear hlx
                have Hly := Lib.hid hly; clear hly
                have HlV := Lib.hid lvV; clear lvV
                have hbm2 : BoxAt V W.heap.size (.int .i64 (mN : Int)) 3 := by have := hi.bm; rwa [hmN] at this
                have Hbm2 := Lib.hid hbm2; clear hbm2
                have Hi := Lib.hid hi; clear hi
                have Hkd := Lib.hid (KeptW.drew V)
                have hcv : IntKind.i64.wrap (mo.toNat : Int) = (mo.toNat : Int) := by have := mo.isLt; rw [IntKind.wrap_i64] <;> omega
                obtain ⟨sN, hsN⟩ : ∃ s, X0.cnt + Y0.cnt = s := ⟨_, rfl⟩
                rw [hsN] at hle2
                have hadd : IntKind.i64.wrap ((X0.cnt : Int) + (Y0.cnt : Int)) = (sN : Int) := by rw [IntKind.wrap_i64] <;> omega
                have hadd2 : wrap64 ((X0.cnt : Int) + (Y0.cnt : Int)) = (sN : Int) := by unfold wrap64; omega
                have hx1 : (nN : Int) ≤ (X0.cnt : Int) := Int.ofNat_le.2 hle
                have hx2 : (mN : Int) ≤ (sN : Int) := Int.ofNat_le.2 hle2
                have hx3 : mN ≤ sN := hle2
                clear hDl hsN
                clear hE2 hK2 hmN hlq hEne
                go_wp2_with fail
                refine (wpIn_wide (n := 1)).1 ?_
                refine RegG.wpIn_region_calm (F := Fence.wide) (KeptW V) [(0, 0), (1, 0), (2, 1), (3, 0), (4, 0), (5, 0), (6, 0), (7, 1), (8, 0), (9, 0), (10, 0), (11, 0), (12, 0), (13, 0), (14, 0), (15, 0), (16, 0), (17, 0), (18, 0), (20, 0), (19, 1), (21, 1), (22, 0), (23, 0), (24, 0), (25, 0), (26, 1), (27, 0), (28, 2)] (by kernel_rfl) (by kernel_rfl) (by kernel_rfl) Hkd.out ?_
                dsimp only [RegG.pick, List.getElem?_cons_zero, List.getElem?_cons_succ]
                change RegG.Can _ _ _ _ _ _ _ _ V.drew
                by_cases hnx : nN = X0.cnt
                · have hne : ((nN : Int) == (X0.cnt : Int)) = true := by rw [hnx]; simp
                  refine RegG.can_reads ?_
                  intro K hK
                  go_simp
                  refine ⟨.int .i64 (nN : Int), fun y hy => ?_, hK _ ?_⟩
                  · have f0 := (Hi.out.bn.below (KeptW.bel hy)).cell
                    go_simp
                  clear hK K
                  refine RegG.can_reads ?_
                  intro K hK
                  go_simp
                  refine ⟨.pointer P1, fun y hy => ?_, hK _ ?_⟩
                  · have f0 := (HlV.out.below (KeptW.bel hy)).bx.cell; rw [HP1.out] at f0
                    go_simp
                  clear hK K
                  refine RegG.can_turns (fun _ => trivial) ?_
                  intro K K0 hK hK0
                  go_simp
                  refine ⟨trivial, ?_⟩
                  refine (callsIn_wide.2 Hlx.out).mono ?_
                  rintro e w' ⟨rfl, rfl⟩
                  refine hK _ _ Hkd.out ?_
                  clear hK K hK0 K0
                  iterate 2 (refine RegG.can_reads ?_; intro K hK; go_simp; (first | (refine ⟨_, fun _ _ => rfl, hK _ ?_⟩) | (refine hK _ ?_)); clear hK K)
                  refine RegG.can_reads ?_
                  intro K hK
                  go_simp
                  refine ⟨.int .i64 (nN : Int), fun y hy => ?_, hK _ ?_⟩
                  · have f0 := (Hi.out.bn.below (KeptW.bel hy)).cell
                    go_simp
                  clear hK K
                  refine RegG.can_reads ?_
                  intro K hK
                  go_simp
                  refine ⟨.pointer P1, fun y hy => ?_, hK _ ?_⟩
                  · have f0 := (HlV.out.below (KeptW.bel hy)).bx.cell; rw [HP1.out] at f0
                    go_simp
                  clear hK K
                  refine RegG.can_turns (fun _ => trivial) ?_
                  intro K K0 hK hK0
                  go_simp
                  refine ⟨trivial, ?_⟩
                  refine (callsIn_wide.2 Hlx.out).mono ?_
                  rintro e w' ⟨rfl, rfl⟩
                  refine hK _ _ Hkd.out ?_
                  clear hK K hK0 K0
                  iterate 2 (refine RegG.can_reads ?_; intro K hK; go_simp; (first | (refine ⟨_, fun _ _ => rfl, hK _ ?_⟩) | (refine hK _ ?_)); clear hK K)
                  iterate 4 (refine RegG.can_reads ?_; intro K hK; go_simp; (first | (refine ⟨_, fun _ _ => rfl, hK _ ?_⟩) | (refine hK _ ?_)); clear hK K)
                  iterate 3 (refine RegG.can_reads ?_; intro K hK; go_simp; (first | (refine ⟨_, fun _ _ => rfl, hK _ ?_⟩) | (refine hK _ ?_)); clear hK K)
                  refine RegG.can_reads ?_
                  intro K hK
                  go_simp
                  refine ⟨.int .i64 (mN : Int), fun y hy => ?_, hK _ ?_⟩
                  · have f0 := (Hbm2.out.below (KeptW.bel hy)).cell
                    go_simp
                  clear hK K
                  refine RegG.can_reads ?_
                  intro K hK
                  go_simp
                  refine ⟨.pointer P1, fun y hy => ?_, hK _ ?_⟩
                  · have f0 := (HlV.out.below (KeptW.bel hy)).bx.cell; rw [HP1.out] at f0
                    go_simp
                  clear hK K
                  refine RegG.can_reads ?_
                  intro K hK
                  go_simp
                  refine ⟨.pointer P2, fun y hy => ?_, hK _ ?_⟩
                  · have f0 := (HlV.out.below (KeptW.bel hy)).by_.cell; rw [HP2.out] at f0
                    go_simp
                  clear hK K
                  refine RegG.can_turns (fun _ => trivial) ?_
                  intro K K0 hK hK0
                  go_simp
                  refine ⟨trivial, ?_⟩
                  refine (callsIn_wide.2 Hlx.out).mono ?_
                  rintro e w' ⟨rfl, rfl⟩
                  refine hK _ _ Hkd.out ?_
                  clear hK K hK0 K0
                  refine RegG.can_turns (fun _ => trivial) ?_
                  intro K K0 hK hK0
                  go_simp
                  refine ⟨trivial, ?_⟩
                  refine (callsIn_wide.2 Hly.out).mono ?_
                  rintro e w' ⟨rfl, rfl⟩
                  refine hK _ _ Hkd.out ?_
                  clear hK K hK0 K0
                  iterate 4 (refine RegG.can_reads ?_; intro K hK; go_simp; (first | (refine ⟨_, fun _ _ => rfl, hK _ ?_⟩) | (refine hK _ ?_)); clear hK K)
                  refine RegG.can_turns (fun _ => trivial) ?_
                  intro K K0 hK hK0
                  go_simp
                  refine ⟨trivial, ?_⟩
                  refine (callsIn_wide.2 (trWakes_any _)).mono ?_
                  rintro e w3 ⟨rfl, hb3⟩
                  have hk3 : KeptW V w3 := Hkd.out.mono hb3
                  refine hK _ _ hk3 ?_
                  clear hK K hK0 K0
                  iterate 1 (refine RegG.can_reads ?_; intro K hK; go_simp; (first | (refine ⟨_, fun _ _ => rfl, hK _ ?_⟩) | (refine hK _ ?_)); clear hK K)
                  have z0 := (HlV.out.below (KeptW.bel hk3)).br.cell
                  have z1 := (HlV.out.below (KeptW.bel hk3)).br.frozen
                  refine RegG.can_frees (fun _ => trivial) ?_
                  intro K K0 hK hK0
                  go_simp
                  refine hK (fun _ => True) _ _ trivial ?_
                  clear hK K hK0 K0
                  refine RegG.can_calm ?_
                  go_wp2_with fail
                  exact Hfin.out _ w3 rfl hk3
                · have hne : ((nN : Int) == (X0.cnt : Int)) = false := by simp; omega
                  have hmo : (mo.toNat : Int) ≤ (nN : Int) := by have := hor.resolve_left hnx; omega
                  have hmo2 : mo.toNat ≤ nN := hor.resolve_left hnx
                  refine RegG.can_reads ?_
                  intro K hK
                  go_simp
                  refine ⟨.int .i64 (nN : Int), fun y hy => ?_, hK _ ?_⟩
                  · have f0 := (Hi.out.bn.below (KeptW.bel hy)).cell
                    go_simp
                  clear hK K
                  refine RegG.can_reads ?_
                  intro K hK
                  go_simp
                  refine ⟨.pointer P1, fun y hy => ?_, hK _ ?_⟩
                  · have f0 := (HlV.out.below (KeptW.bel hy)).bx.cell; rw [HP1.out] at f0
                    go_simp
                  clear hK K
                  refine RegG.can_turns (fun _ => trivial) ?_
                  intro K K0 hK hK0
                  go_simp
                  refine ⟨trivial, ?_⟩
                  refine (callsIn_wide.2 Hlx.out).mono ?_
                  rintro e w' ⟨rfl, rfl⟩
                  refine hK _ _ Hkd.out ?_
                  clear hK K hK0 K0
                  iterate 2 (refine RegG.can_reads ?_; intro K hK; go_simp; (first | (refine ⟨_, fun _ _ => rfl, hK _ ?_⟩) | (refine hK _ ?_)); clear hK K)
                  refine RegG.can_reads ?_
                  intro K hK
                  go_simp
                  refine ⟨.int .i64 (nN : Int), fun y hy => ?_, hK _ ?_⟩
                  · have f0 := (Hi.out.bn.below (KeptW.bel hy)).cell
                    go_simp
                  clear hK K
                  refine RegG.can_reads ?_
                  intro K hK
                  go_simp
                  refine ⟨.pointer P1, fun y hy => ?_, hK _ ?_⟩
                  · have f0 := (HlV.out.below (KeptW.bel hy)).bx.cell; rw [HP1.out] at f0
                    go_simp
                  clear hK K
                  refine RegG.can_turns (fun _ => trivial) ?_
                  intro K K0 hK hK0
                  go_simp
                  refine ⟨trivial, ?_⟩
                  refine (callsIn_wide.2 Hlx.out).mono ?_
                  rintro e w' ⟨rfl, rfl⟩
                  refine hK _ _ Hkd.out ?_
                  clear hK K hK0 K0
                  iterate 2 (refine RegG.can_reads ?_; intro K hK; go_simp; (first | (refine ⟨_, fun _ _ => rfl, hK _ ?_⟩) | (refine hK _ ?_)); clear hK K)
                  refine RegG.can_reads ?_
                  intro K hK
                  go_simp
                  refine ⟨.int .i64 (nN : Int), fun y hy => ?_, hK _ ?_⟩
                  · have f0 := (Hi.out.bn.below (KeptW.bel hy)).cell
                    go_simp
                  clear hK K
                  refine RegG.can_reads ?_
                  intro K hK
                  go_simp
                  refine ⟨.int .u8 (mo.toNat : Int), fun y hy => ?_, hK _ ?_⟩
                  · have f0 := (HlV.out.below (KeptW.bel hy)).bm.cell
                    go_simp
                  clear hK K
                  iterate 2 (refine RegG.can_reads ?_; intro K hK; go_simp; (first | (refine ⟨_, fun _ _ => rfl, hK _ ?_⟩) | (refine hK _ ?_)); clear hK K)
                  iterate 3 (refine RegG.can_reads ?_; intro K hK; go_simp; (first | (refine ⟨_, fun _ _ => rfl, hK _ ?_⟩) | (refine hK _ ?_)); clear hK K)
                  refine RegG.can_reads ?_
                  intro K hK
                  go_simp
                  refine ⟨.int .i64 (mN : Int), fun y hy => ?_, hK _ ?_⟩
                  · have f0 := (Hbm2.out.below (KeptW.bel hy)).cell
                    go_simp
                  clear hK K
                  refine RegG.can_reads ?_
                  intro K hK
                  go_simp
                  refine ⟨.pointer P1, fun y hy => ?_, hK _ ?_⟩
                  · have f0 := (HlV.out.below (KeptW.bel hy)).bx.cell; rw [HP1.out] at f0
                    go_simp
                  clear hK K
                  refine RegG.can_reads ?_
                  intro K hK
                  go_simp
                  refine ⟨.pointer P2, fun y hy => ?_, hK _ ?_⟩
                  · have f0 := (HlV.out.below (KeptW.bel hy)).by_.cell; rw [HP2.out] at f0
                    go_simp
                  clear hK K
                  refine RegG.can_turns (fun _ => trivial) ?_
                  intro K K0 hK hK0
                  go_simp
                  refine ⟨trivial, ?_⟩
                  refine (callsIn_wide.2 Hlx.out).mono ?_
                  rintro e w' ⟨rfl, rfl⟩
                  refine hK _ _ Hkd.out ?_
                  clear hK K hK0 K0
                  refine RegG.can_turns (fun _ => trivial) ?_
                  intro K K0 hK hK0
                  go_simp
                  refine ⟨trivial, ?_⟩
                  refine (callsIn_wide.2 Hly.out).mono ?_
                  rintro e w' ⟨rfl, rfl⟩
                  refine hK _ _ Hkd.out ?_
                  clear hK K hK0 K0
                  iterate 4 (refine RegG.can_reads ?_; intro K hK; go_simp; (first | (refine ⟨_, fun _ _ => rfl, hK _ ?_⟩) | (refine hK _ ?_)); clear hK K)
                  refine RegG.can_turns (fun _ => trivial) ?_
                  intro K K0 hK hK0
                  go_simp
                  refine ⟨trivial, ?_⟩
                  refine (callsIn_wide.2 (trWakes_any _)).mono ?_
                  rintro e w3 ⟨rfl, hb3⟩
                  have hk3 : KeptW V w3 := Hkd.out.mono hb3
                  refine hK _ _ hk3 ?_
                  clear hK K hK0 K0
                  iterate 1 (refine RegG.can_reads ?_; intro K hK; go_simp; (first | (refine ⟨_, fun _ _ => rfl, hK _ ?_⟩) | (refine hK _ ?_)); clear hK K)
                  have z0 := (HlV.out.below (KeptW.bel hk3)).br.cell
                  have z1 := (HlV.out.below (KeptW.bel hk3)).br.frozen
                  refine RegG.can_frees (fun _ => trivial) ?_
                  intro K K0 hK hK0
                  go_simp
                  refine hK (fun _ => True) _ _ trivial ?_
                  clear hK K hK0 K0
                  refine RegG.can_calm ?_
                  go_wp2_with fail
                  exact Hfin.out _ w3 rfl hk3
theorem treeLeaves_law (a0 : Option Addr) (l0 c0 : Nat) (z0 : List TAct) (a1 : Option Addr) (l1 c1 : Nat) (z1 : List TAct) (mo : BitVec 8) {w : World} (h0 : TActsAt w a0 l0 z0) (h1 : TActsAt w a1 l1 z1) (_ : World) :
    Calls Try.prog 11 #[.slice a0 l0 c0, .slice a1 l1 c1, .int .u8 (mo.toNat : Int)] w fun e w' => e = .returned (.bool true) ∧ Below w.heap.size w w' :=
  callsIn_wide.1 (treeLeaves_in a0 l0 c0 z0 a1 l1 c1 z1 mo w h0 h1 3 (Nat.le_refl _))
end Go.Proofs.Ytimhpncdlaildaa
