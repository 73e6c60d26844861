/- The law TreeOne. No condition. -/
import Derived.Test.YtimhpncdlaildaaTrBA
import Derived.Test.YtimhpncdlaildaaTrAE
import Derived.Test.YtimhpncdlaildaaRegK
import Derived.Test.YtimhpncdlaildaaOpen
import Derived.Deep.DeepCutAuto
namespace Go.Proofs.Ytimhpncdlaildaa.One
open Go.RowKit Go.Shelf
attribute [local go_sem] Oper.semAt_some

noncomputable def kStr : KeyEnc Try.prog 9 ByteArray := keyStr Try.prog 9 Try.underlying9
abbrev IntsAt := SliceAt 1 (fun n : Int => [Value.int .i64 n])
abbrev TxtsAt := SliceAt 1 (fun s : ByteArray => [Value.string s])
theorem ints_get {w : World} {A : Option Addr} {n i : Nat} {L : List Int} (h : IntsAt w A n L) (hi : i < n) : ∃ b o, A = some ⟨b, o, none⟩ ∧ b < w.heap.size ∧ w.cell? ⟨b, o + i, none⟩ = some (.int .i64 (L.getD i 0)) := by
  have hl := h.hlen
  obtain ⟨b, o, h1, h2, h3⟩ := h.cells i (L.getD i 0) (by simp [List.getD, List.getElem?_eq_getElem (show i < L.length by omega)])
  exact ⟨b, o, h1, h2, by simpa using h3 0 _ rfl⟩
theorem txts_get {w : World} {A : Option Addr} {n i : Nat} {L : List ByteArray} (h : TxtsAt w A n L) (hi : i < n) : ∃ b o, A = some ⟨b, o, none⟩ ∧ b < w.heap.size ∧ w.cell? ⟨b, o + i, none⟩ = some (.string (L.getD i ByteArray.empty)) := by
  have hl := h.hlen
  obtain ⟨b, o, h1, h2, h3⟩ := h.cells i (L.getD i ByteArray.empty) (by simp [List.getD, List.getElem?_eq_getElem (show i < L.length by omega)])
  exact ⟨b, o, h1, h2, by simpa using h3 0 _ rfl⟩
theorem TreeAt.mapk {w w' : World} {mb : Nat} {es : Array MapEntry} {clock : Nat} (h : w.heap[mb]? = some (.map es clock)) (hg : w.grownBy w' (some mb)) : ∀ {T : Tr}, TreeAt w T → TreeAt w' T
  | .nil, _ => trivial
  | .node b k v wt l r, ⟨h1, h2, h3⟩ => ⟨(hg.block b h1.lt (fun e => by
      cases e
      unfold NodeAt at h1
      rw [h1] at h
      cases h)).trans h1, TreeAt.mapk h hg h2, TreeAt.mapk h hg h3⟩
theorem TOk.mapk {w w' : World} {mb c : Nat} {T : Tr} {m : List (ByteArray × Value)} (h : TOk w c T) (hm : MapAt kStr w mb m) (hg : w.grownBy w' (some mb)) : TOk w' c T := by
  obtain ⟨es, clock, hb, _⟩ := hm
  exact ⟨TreeAt.mapk hb hg h.at_, h.asc, h.heap, h.cnt, h.keys⟩
/-- The law's map and its answer. -/
structure Base (w0 : World) (mb gm : Nat) (m : List (ByteArray × Value)) (w : World) : Prop where
  mp : MapAt kStr w mb m
  mv : BoxAt w gm (.map (some mb)) 87
  br : BoxAt w w0.heap.size (.bool false) 4
  bel : Below w0.heap.size w0 w
  ord : w0.heap.size < mb ∧ mb < gm
theorem Base.below {w0 w w' : World} {mb gm : Nat} {m : List (ByteArray × Value)} (h : Base w0 mb gm m w) (hb : Below w.heap.size w w') : Base w0 mb gm m w' := ⟨h.mp.below kStr hb, h.mv.below hb, h.br.below hb, h.bel.trans (hb.mono h.bel.size), h.ord⟩
theorem Base.update {w0 w w' : World} {mb gm : Nat} {m m' : List (ByteArray × Value)} (h : Base w0 mb gm m w) (hm : MapAt kStr w' mb m') (hg : w.grownBy w' (some mb)) : Base w0 mb gm m' w' :=
  ⟨hm, (hg.block gm h.mv.lt (fun e => by cases e; exact absurd h.ord.2 (Nat.lt_irrefl _))).trans h.mv, (hg.block _ h.br.lt (fun e => by cases e; exact absurd h.ord.1 (Nat.lt_irrefl _))).trans h.br,
    ⟨hg.os.trans h.bel.os, hg.tape.trans h.bel.tape, hg.output.trans h.bel.output, Nat.le_trans h.bel.size hg.size, fun q hq => (hg.block q (Nat.lt_of_lt_of_le hq h.bel.size) (fun e => by cases e; have := h.ord.1; omega)).trans (h.bel.block q hq)⟩, h.ord⟩
theorem zStr (w : World) : (zeroValue 9).run Try.prog w = .ok (.string ByteArray.empty) w := by
  go_simp
  rfl

theorem TreeAt.own {B0 : Nat} {T : Tr} {W W' : World} {row : Option Nat} (h : TreeAt W T) (hg : W.grownBy W' row) (hr : ∀ r, row = some r → B0 ≤ r ∧ ∃ o : Obj, W.heap[r]? = some o ∧ o.isCells = false) : TreeAt W' T := by
  induction T with
  | nil => trivial
  | node b k v wt l r ihl ihr =>
    obtain ⟨h1, h2, h3⟩ := h
    refine ⟨(hg.block b h1.lt (fun e => ?_)).trans h1, ihl h2, ihr h3⟩
    obtain ⟨_, o, ho, hc⟩ := hr b e.symm
    unfold NodeAt at h1
    rw [h1] at ho
    cases ho
    cases hc
/-- What the second range keeps: v, led from t towards u. -/
def RunI (gv : Nat) (zb : World) (T U : Tr) (pre : List {c : Chg // Told T.sh U.sh c}) (W : World) : Prop :=
  ∃ V : Tr, BoxAt W gv (.pointer V.ptr) 58 ∧ TOk W (100 + pre.length) V ∧ Led T.sh U.sh (pre.map (·.val.key)) V.sh ∧ Below gv zb W
theorem RunI.own {gv B0 : Nat} {zb : World} {T U : Tr} (hg0 : gv < B0) : OwnFrom B0 (RunI gv zb T U) := fun s W W' row hs hg hr => by
  obtain ⟨V, h1, h2, h3, h4⟩ := hs
  refine ⟨V, BoxAt.own (f := fun _ => _) s W W' row h1 hg hr, ⟨TreeAt.own h2.at_ hg hr, h2.asc, h2.heap, h2.cnt, h2.keys⟩, h3, ?_⟩
  exact ⟨hg.os.trans h4.os, hg.tape.trans h4.tape, hg.output.trans h4.output, Nat.le_trans h4.size hg.size, fun q hq => (hg.block q (by have := h1.lt; omega) (fun e => by have := (hr q e.symm).1; omega)).trans (h4.block q hq)⟩

theorem RunI.below {gv : Nat} {zb W W' : World} {T U : Tr} {pre : List {c : Chg // Told T.sh U.sh c}} (h : RunI gv zb T U pre W) (hb : Below W.heap.size W W') : RunI gv zb T U pre W' := by
  obtain ⟨V, h1, h2, h3, h4⟩ := h
  exact ⟨V, h1.below hb, h2.below hb, h3, h4.trans (hb.mono (Nat.le_of_lt h1.lt))⟩
theorem RunI.turned {gv B0 l : Nat} {zb W W' : World} {T U : Tr} {pre : List {c : Chg // Told T.sh U.sh c}} (hg : gv < B0) (h : RunI gv zb T U pre W) (ht : Range.Turned B0 l W W') : RunI gv zb T U pre W' := by
  obtain ⟨h1, o, o', h2, hc, _, rfl⟩ := ht
  exact RunI.own hg pre W _ (some l) h (grownBy_putObj' W l o') (fun r e => by cases e; exact ⟨h1, o, h2, hc⟩)
theorem TOk.setB {W : World} {c gv i : Nat} {T : Tr} {v x : Value} {t : TypeId} (h : TOk W c T) (hb : BoxAt W gv v t) : TOk (W.setCell ⟨gv, i, none⟩ x) c T := ⟨TreeAt.set hb h.at_, h.asc, h.heap, h.cnt, h.keys⟩
theorem told_look {S U : Sh} {xk xo xn : ByteArray} {xa xb : Bool} (h : Told S U ⟨xk, xo, xn, xa, xb⟩) : xb = (U.look xk).isSome ∧ xn = (U.look xk).getD ByteArray.empty ∧ xk.size ≤ 100 := by
  obtain ⟨h1, _, h3⟩ := h
  simp only [chgOf, Chg.mk.injEq] at h1
  exact ⟨h1.2.2.2.2, h1.2.2.1, h3⟩
theorem runI_next {gv : Nat} {zb W2 W3 : World} {T U V X : Tr} {pre : List {c : Chg // Told T.sh U.sh c}} {x : {c : Chg // Told T.sh U.sh c}} {o : Option ByteArray} (hl : Led T.sh U.sh (pre.map (·.val.key)) V.sh) (hb : BoxAt W2 gv (.pointer V.ptr) 58) (hz : Below gv zb W2)
    (hp : PutPost W2 (100 + pre.length) V x.val.key o W3 X) (ho : U.sh.look x.val.key = o) : RunI gv zb T U (pre ++ [x]) (W3.setCell ⟨gv, 0, none⟩ (.pointer X.ptr)) ∧ KeepC gv (gv + 1 + 2) W2 (W3.setCell ⟨gv, 0, none⟩ (.pointer X.ptr)) := by
  have hb3 := hb.below hp.bel
  refine ⟨⟨X, hb3.set, ?_, ?_, below_set (hz.trans (hp.bel.mono (Nat.le_of_lt hb.lt))) (Nat.le_refl _)⟩, below_set (hp.bel.mono (Nat.le_of_lt hb.lt)) (Nat.le_refl _), fun q cs t f hq e => ?_⟩
  · have h := hp.ok.setB (i := 0) (x := .pointer X.ptr) hb3
    rw [List.length_append]
    exact h
  · rw [List.map_append]
    exact hl.step hp ho
  · exact (Below.heap_setCell _ _ _ _ (by show q ≠ gv; omega)).trans ((hp.bel.block q (Array.getElem?_eq_some_iff.1 e).1).trans e)

theorem TreeAt.low {q : Nat} {W W' : World} (hb : Below q W W') : ∀ {T : Tr}, T.Lo q → TreeAt W T → TreeAt W' T
  | .nil, _, _ => trivial
  | .node _ _ _ _ _ _, ⟨l1, l2, l3⟩, ⟨h1, h2, h3⟩ => ⟨(hb.block _ l1).trans h1, TreeAt.low hb l2 h2, TreeAt.low hb l3 h3⟩
theorem TOk.low {q c : Nat} {W W' : World} {T : Tr} (h : TOk W c T) (hb : Below q W W') (hl : T.Lo q) : TOk W' c T := ⟨TreeAt.low hb hl h.at_, h.asc, h.heap, h.cnt, h.keys⟩
theorem Base.low {w0 w w' : World} {mb gm q : Nat} {m : List (ByteArray × Value)} (h : Base w0 mb gm m w) (hb : Below q w w') (hq : gm < q) : Base w0 mb gm m w' :=
  ⟨h.mp.of_block kStr (hb.block mb (Nat.lt_trans h.ord.2 hq)), (hb.block gm hq).trans h.mv, (hb.block _ (by have := h.ord.1; have := h.ord.2; omega)).trans h.br, h.bel.trans (hb.mono (by have := h.ord.1; have := h.ord.2; omega)), h.ord⟩

set_option maxRecDepth 100000 in
set_option maxHeartbeats 80000000 in
theorem treeOne_in (a0 : Option Addr) (n cap0 : Nat) (L : Prs) (a1 : Option Addr) (no cap1 : Nat) (O : List Int) (a2 : Option Addr) (nb cap2 : Nat) (B : List ByteArray) (w : World)
    (h0 : PairsAt w a0 n L) (h1 : IntsAt w a1 no O) (h2 : TxtsAt w a2 nb B) (mm : Nat) (hmm : 3 ≤ mm) :
    CallsIn Fence.wide mm Try.prog 10 #[.slice a0 n cap0, .slice a1 no cap1, .slice a2 nb cap2] w fun e w' => e = .returned (.bool true) ∧ Below w.heap.size w w' := by
  have H0 := Lib.hid h0; clear h0
  have H1 := Lib.hid h1; clear h1
  have H2 := Lib.hid h2; clear h2
  refine callsIn_of_wp_marks Try.func10 rfl trivial ?_ rfl
  simp only [Try.ntmps10, List.size_toArray, List.length_cons, List.length_nil, Nat.reduceAdd, Nat.reduceSub, Array.replicate_succ, Array.replicate_zero, List.push_toArray, List.append_toArray, List.nil_append, List.cons_append]
  refine wpIn_wide.2 ?_
  have hbr := BoxAt.new w (.bool false) 4
  have hbel := (Below.refl w.heap.size w).alloc (Nat.le_refl _) (.cells #[.bool false] 4)
  go_upto_region 1 with fail
  change Code.wp _ _ _ _ (w.alloc (.cells #[.bool false] 4))
  generalize w.alloc (.cells #[.bool false] 4) = w1 at *
  have Hbr := Lib.hid hbr; clear hbr
  have Hbel := Lib.hid hbel; clear hbel
  by_cases c1 : 100 < n
  · have c1' : (100 : Int) < (n : Int) := by omega
    go_wp2_with ((with_reducible refine (trWakes_any w1).mono ?_); rintro e w3 ⟨rfl, hw⟩; have Hw := Lib.hid hw; clear hw; have f0 := (Hbr.out.below Hw.out).cell; have f1 := (Hbr.out.below Hw.out).frozen)
    have hb3 : Below w.heap.size w (w3.setCell ⟨w.heap.size, 0, none⟩ (.bool true)) := below_set (Hbel.out.trans (Hw.out.mono Hbel.out.size)) (Nat.le_refl _)
    have f3 := ((Hbr.out.below Hw.out).set (v' := .bool true)).cell
    refine ⟨.bool true, ?_, rfl, hb3⟩
    simp [results, Try.results10, go_sem, f3]
  have c1' : ¬ (100 : Int) < (n : Int) := by omega
  by_cases c2 : 200 < no
  · have c2' : (200 : Int) < (no : Int) := by omega
    go_wp2_with ((with_reducible refine (trWakes_any w1).mono ?_); rintro e w3 ⟨rfl, hw⟩; have Hw := Lib.hid hw; clear hw; have f0 := (Hbr.out.below Hw.out).cell; have f1 := (Hbr.out.below Hw.out).frozen)
    have hb3 : Below w.heap.size w (w3.setCell ⟨w.heap.size, 0, none⟩ (.bool true)) := below_set (Hbel.out.trans (Hw.out.mono Hbel.out.size)) (Nat.le_refl _)
    have f3 := ((Hbr.out.below Hw.out).set (v' := .bool true)).cell
    refine ⟨.bool true, ?_, rfl, hb3⟩
    simp [results, Try.results10, go_sem, f3]
  have c2' : ¬ (200 : Int) < (no : Int) := by omega
  by_cases c3 : 100 < nb
  · have c3' : (100 : Int) < (nb : Int) := by omega
    go_wp2_with ((with_reducible refine (trWakes_any w1).mono ?_); rintro e w3 ⟨rfl, hw⟩; have Hw := Lib.hid hw; clear hw; have f0 := (Hbr.out.below Hw.out).cell; have f1 := (Hbr.out.below Hw.out).frozen)
    have hb3 : Below w.heap.size w (w3.setCell ⟨w.heap.size, 0, none⟩ (.bool true)) := below_set (Hbel.out.trans (Hw.out.mono Hbel.out.size)) (Nat.le_refl _)
    have f3 := ((Hbr.out.below Hw.out).set (v' := .bool true)).cell
    refine ⟨.bool true, ?_, rfl, hb3⟩
    simp [results, Try.results10, go_sem, f3]
  have c3' : ¬ (100 : Int) < (nb : Int) := by omega
  have hn : n ≤ 100 := by omega
  have hno : no ≤ 200 := by omega
  have hnb : nb ≤ 100 := by omega
  have hLn := H0.out.hlen
  have hBn := H2.out.hlen
  have HLn := Lib.hid hLn; clear hLn
  have HBn := Lib.hid hBn; clear hBn
  have hmm2 := @run_makeMap Try.prog
  go_upto_region 3 with fail
  clear c1 c2 c3 c1' c2' c3'
  go_upto_region 4 with fail
  clear hmm2
  have hB0 : Base w w1.heap.size (w1.heap.size + 1) [] ((w1.alloc (.map #[] 0)).alloc (.cells #[.map (some w1.heap.size)] 87)) := by
    have b1 := (Below.refl w1.heap.size w1).alloc (Nat.le_refl _) (.map #[] 0)
    have b2 := (Below.refl (w1.alloc (.map #[] 0)).heap.size (w1.alloc (.map #[] 0))).alloc (Nat.le_refl _) (.cells #[.map (some w1.heap.size)] 87)
    have s1 : (w1.alloc (.map #[] 0)).heap.size = w1.heap.size + 1 := by simp
    have v := BoxAt.new (w1.alloc (.map #[] 0)) (.map (some w1.heap.size)) 87
    rw [s1] at v
    exact ⟨(MapAt.made kStr w1).below kStr b2, v, (Hbr.out.below b1).below b2, Hbel.out.trans ((b1.trans (b2.mono b1.size)).mono Hbel.out.size), ⟨Hbr.out.lt, Nat.lt_succ_self _⟩⟩
  generalize w1.heap.size = mb at *
  change Code.wp _ _ _ _ ((w1.alloc (.map #[] 0)).alloc (.cells #[.map (some mb)] 87))
  generalize (w1.alloc (.map #[] 0)).alloc (.cells #[.map (some mb)] 87) = w2 at *
  have HB0 := Lib.hid hB0; clear hB0 Hbr Hbel
  generalize hgm : mb + 1 = gm at *
  clear hgm
  go_wp2_with fail
  go_loopw [8, 9] (fun s8 s9 wr => ∃ (i : Nat) (T : Tr) (m : List (ByteArray × Value)), i ≤ n ∧ s9 = .int .i64 (i : Int) ∧ s8 = .pointer T.ptr ∧ TOk wr i T ∧ Base w mb gm m wr ∧ MapRel m T.sh ∧ First L i T.sh) (fun _ s9 _ => n - (intOf s9).toNat)
  case atStart => exact ⟨0, .nil, [], by omega, rfl, rfl, TOk.nil _ _, HB0.out, MapRel.nil, First.zero L⟩
  case round =>
    obtain ⟨i, T, m, hi, rfl, rfl, ht, hb, hmr, hfi⟩ := hrel
    clear HB0
    have HT := Lib.hid ht; clear ht
    have HB := Lib.hid hb; clear hb
    have HM := Lib.hid hmr; clear hmr
    have HF := Lib.hid hfi; clear hfi
    obtain ⟨P, hP⟩ : ∃ P, T.ptr = P := ⟨_, rfl⟩
    rw [hP]
    have HP := Lib.hid hP; clear hP
    by_cases hlt : i < n
    · have hlt' : (i : Int) < (n : Int) := by omega
      obtain ⟨b, o, rfl, hbl, c0, c1⟩ := pairs_get (H0.out.below HB.out.bel) hlt
      have hsucc := tsucc (n := i) (by omega)
      have hi1 : i + 1 ≤ n := hlt
      obtain ⟨xk, hxk⟩ : ∃ k, (L.getD i pdflt).1 = k := ⟨_, rfl⟩
      obtain ⟨xv, hxv⟩ : ∃ k, (L.getD i pdflt).2 = k := ⟨_, rfl⟩
      rw [hxk] at c0
      rw [hxv] at c1
      have Hxk := Lib.hid hxk; clear hxk hxv
      have hcl : ∀ y, Below wr.heap.size wr y → y.cell? ⟨b, o + i * 2, none⟩ = some (.string xk) ∧ y.cell? ⟨b, o + i * 2 + 1, none⟩ = some (.string xv) := fun y hy => ⟨(hy.cell (p := ⟨b, _, none⟩) hbl).trans c0, (hy.cell (p := ⟨b, _, none⟩) hbl).trans c1⟩
      have Hc := Lib.hid hcl; clear hcl hbl
      by_cases hk1 : 100 < xk.size
      · have hk1' : (100 : Int) < (xk.size : Int) := by omega
        go_wp2_with ((with_reducible refine (trWakes_any wr).mono ?_); rintro e w3 ⟨rfl, hw⟩; have Hw := Lib.hid hw; clear hw; have f0 := (HB.out.br.below Hw.out).cell; have f1 := (HB.out.br.below Hw.out).frozen)
        have hb3 : Below w.heap.size w (w3.setCell ⟨w.heap.size, 0, none⟩ (.bool true)) := below_set (HB.out.bel.trans (Hw.out.mono HB.out.bel.size)) (Nat.le_refl _)
        have f3 := ((HB.out.br.below Hw.out).set (v' := .bool true)).cell
        refine ⟨.bool true, ?_, rfl, hb3⟩
        simp [results, Try.results10, go_sem, f3]
      have hk1' : ¬ (100 : Int) < (xk.size : Int) := by omega
      by_cases hk2 : 100 < xv.size
      · have hk2' : (100 : Int) < (xv.size : Int) := by omega
        go_wp2_with ((with_reducible refine (trWakes_any wr).mono ?_); rintro e w3 ⟨rfl, hw⟩; have Hw := Lib.hid hw; clear hw; have f0 := (HB.out.br.below Hw.out).cell; have f1 := (HB.out.br.below Hw.out).frozen)
        have hb3 : Below w.heap.size w (w3.setCell ⟨w.heap.size, 0, none⟩ (.bool true)) := below_set (HB.out.bel.trans (Hw.out.mono HB.out.bel.size)) (Nat.le_refl _)
        have f3 := ((HB.out.br.below Hw.out).set (v' := .bool true)).cell
        refine ⟨.bool true, ?_, rfl, hb3⟩
        simp [results, Try.results10, go_sem, f3]
      have hk2' : ¬ (100 : Int) < (xv.size : Int) := by omega
      have hks : xk.size ≤ 100 := by omega
      go_upto_region 10 with fail
      clear hk1 hk2 hk1' hk2' c0 c1
      refine (wpIn_wide (n := 1)).1 ?_
      refine RegK.wpIn_region_calm (F := Fence.wide) (KeptW wr) [(0, 0), (1, 0), (2, 0), (3, 0), (4, 0), (5, 0), (6, 0), (7, 0), (8, 0), (9, 0), (10, 0), (11, 3)] (by kernel_rfl) (by kernel_rfl) (by kernel_rfl) (KeptW.drew wr) ?_
      dsimp only [RegK.pick, List.getElem?_cons_zero, List.getElem?_cons_succ]
      change RegK.Can _ _ _ _ _ _ _ _ wr.drew
      refine RegK.can_reads ?_
      intro K hK
      go_simp
      refine ⟨.map (some mb), fun y hy => ?_, hK _ ?_⟩
      · have f0 := (HB.out.mv.below (KeptW.bel hy)).cell
        go_simp
      clear hK K
      iterate 4 (refine RegK.can_reads ?_; intro K hK; go_simp; (first | (refine ⟨_, fun _ _ => rfl, hK _ ?_⟩) | (refine hK _ ?_)); clear hK K)
      refine RegK.can_reads ?_
      intro K hK
      go_simp
      refine ⟨.string xk, fun y hy => ?_, hK _ ?_⟩
      · have f0 := (Hc.out y (KeptW.bel hy)).1
        go_simp
      clear hK K
      iterate 4 (refine RegK.can_reads ?_; intro K hK; go_simp; (first | (refine ⟨_, fun _ _ => rfl, hK _ ?_⟩) | (refine hK _ ?_)); clear hK K)
      refine RegK.can_reads ?_
      intro K hK
      go_simp
      refine ⟨.string xv, fun y hy => ?_, hK _ ?_⟩
      · have f0 := (Hc.out y (KeptW.bel hy)).2
        go_simp
      clear hK K
      obtain ⟨w3, hu, hm3, hg3, _⟩ := run_update_at kStr (HB.out.mp.drew kStr) Try.underlying87 xk (.string xv)
      have hB3 := (HB.out.below (KeptW.bel (KeptW.drew wr))).update hm3 hg3
      have hT3 := (HT.out.below (KeptW.bel (KeptW.drew wr))).mapk (HB.out.mp.drew kStr) hg3
      have hu' : (Instr.mapUpdate 87 (.map (some mb)) (.string xk) (.string xv)).run Try.prog wr.drew = .ok () w3 := hu
      have HB3 := Lib.hid hB3; clear hB3
      have HT3 := Lib.hid hT3; clear hT3
      have Hc3 := Lib.hid (show ∀ y, Below w3.heap.size w3 y → y.cell? ⟨b, o + i * 2, none⟩ = some (.string xk) ∧ y.cell? ⟨b, o + i * 2 + 1, none⟩ = some (.string xv) from fun y hy => by
        obtain ⟨b', o', e, _, g0, g1⟩ := pairs_get ((H0.out.below HB3.out.bel).below hy) hlt
        cases e
        rw [Hxk.out] at g0
        have hv : (L.getD i pdflt).2 = xv := by
          have h1 := (Hc.out wr (Below.refl _ _)).2
          obtain ⟨b2, o2, e2, _, _, g3⟩ := pairs_get (H0.out.below HB.out.bel) hlt
          cases e2
          rw [h1] at g3
          simp only [Option.some.injEq, Value.string.injEq] at g3
          exact g3.symm
        rw [hv] at g1
        exact ⟨g0, g1⟩)
      clear hm3 hg3 hu Hc
      refine RegK.can_frees (fun _ => trivial) ?_
      intro K K0 hK hK0
      go_simp
      refine hK (fun _ => True) _ _ trivial ?_
      clear hK K hK0 K0
      refine RegK.can_calm ?_
      clear hu'
      go_upto_region 11 with fail
      refine (wpIn_wide (n := 1)).1 ?_
      refine RegK.wpIn_region_calm (F := Fence.wide) (KeptW w3) [(0, 0), (1, 0), (2, 0), (3, 0), (4, 0), (5, 0), (6, 0), (7, 0), (8, 0), (9, 0), (10, 0), (11, 1), (12, 0)] (by kernel_rfl) (by kernel_rfl) (by kernel_rfl) (KeptW.drew w3) ?_
      dsimp only [RegK.pick, List.getElem?_cons_zero, List.getElem?_cons_succ]
      change RegK.Can _ _ _ _ _ _ _ _ w3.drew
      iterate 5 (refine RegK.can_reads ?_; intro K hK; go_simp; (first | (refine ⟨_, fun _ _ => rfl, hK _ ?_⟩) | (refine hK _ ?_)); clear hK K)
      refine RegK.can_reads ?_
      intro K hK
      go_simp
      refine ⟨.string xk, fun y hy => ?_, hK _ ?_⟩
      · have f0 := (Hc3.out y (KeptW.bel hy)).1
        go_simp
      clear hK K
      iterate 4 (refine RegK.can_reads ?_; intro K hK; go_simp; (first | (refine ⟨_, fun _ _ => rfl, hK _ ?_⟩) | (refine hK _ ?_)); clear hK K)
      refine RegK.can_reads ?_
      intro K hK
      go_simp
      refine ⟨.string xv, fun y hy => ?_, hK _ ?_⟩
      · have f0 := (Hc3.out y (KeptW.bel hy)).2
        go_simp
      clear hK K
      refine RegK.can_narrows (fun _ => trivial) ?_
      intro K K0 hK hK0
      go_simp
      refine ⟨trivial, ?_⟩
      have hput := put_one xk xv hks T i w3.drew (HT3.out.below (KeptW.bel (KeptW.drew w3))) (by omega)
      rw [HP.out] at hput
      refine (callsIn_wide.2 hput).mono ?_
      clear hput
      rintro e w4 ⟨X, rfl, hx⟩
      have hx4 : KeptW w3 w4 := KeptW.mono (KeptW.drew w3) hx.bel
      refine hK (KeptW w3) _ _ (fun y h => h) hx4 ?_
      clear hK K K0 hK0
      have Hx := Lib.hid hx; clear hx
      have HB4 := Lib.hid (HB3.out.below (KeptW.bel hx4)); clear hx4
      iterate 1 (refine RegK.can_reads ?_; intro K hK; go_simp; (first | (refine ⟨_, fun _ _ => rfl, hK _ ?_⟩) | (refine hK _ ?_)); clear hK K)
      refine RegK.can_calm ?_
      go_wp2_with fail
      go_roundw
      case rel =>
        exact ⟨i + 1, X, _, hi1, rfl, rfl, Hx.out.ok, HB4.out, by rw [Hx.out.shp xv rfl]; exact HM.out.put HT.out.asc xk xv, First.step HF.out (v := xv) (by rw [Hxk.out]; exact Hx.out)⟩
      case measure => simp [intOf]; omega
    · have hlt' : ¬ (i : Int) < (n : Int) := by omega
      obtain rfl : n = i := by omega
      go_upto_region 12 with fail
      clear hlt hlt' hi
      generalize wr = wA at *
      obtain ⟨S, hS⟩ : ∃ S, T.sh = S := ⟨_, rfl⟩
      rw [hS] at HM HF
      have HS := Lib.hid hS; clear hS
      go_wp2_with fail
      go_loopw [10, 11] (fun s10 s11 wr => ∃ (j : Nat) (U : Tr), j ≤ nb ∧ s11 = .int .i64 (j : Int) ∧ s10 = .pointer U.ptr ∧ TOk wr j U ∧ Mixed S B U.sh ∧ Below wA.heap.size wA wr) (fun _ s11 _ => nb - (intOf s11).toNat)
      case atStart => exact ⟨0, .nil, by omega, rfl, rfl, TOk.nil _ _, Mixed.nil S B, Below.refl _ _⟩
      case round =>
        obtain ⟨j, U, hi, rfl, rfl, hu, hmix, hbr⟩ := hrel
        have HU := Lib.hid hu; clear hu
        have HX := Lib.hid hmix; clear hmix
        have Hbr := Lib.hid hbr; clear hbr
        have HBr := Lib.hid (HB.out.below Hbr.out)
        obtain ⟨Q, hQ⟩ : ∃ P, U.ptr = P := ⟨_, rfl⟩
        rw [hQ]
        have HQ := Lib.hid hQ; clear hQ
        by_cases hlt : j < nb
        · have hlt' : (j : Int) < (nb : Int) := by omega
          obtain ⟨b, o, rfl, hbl, c0⟩ := txts_get (H2.out.below HBr.out.bel) hlt
          have hsucc := tsucc (n := j) (by omega)
          have hi1 : j + 1 ≤ nb := hlt
          have hkB : B.getD j ByteArray.empty ∈ B := by
            have hj : j < B.length := by rw [HBn.out]; exact hlt
            rw [List.getD, List.getElem?_eq_getElem hj]
            exact List.getElem_mem _
          generalize B.getD j ByteArray.empty = xk at *
          have HkB := Lib.hid hkB; clear hkB
          by_cases hk1 : 100 < xk.size
          · have hk1' : (100 : Int) < (xk.size : Int) := by omega
            go_wp2_with ((with_reducible refine (trWakes_any wr).mono ?_); rintro e w3 ⟨rfl, hw⟩; have Hw := Lib.hid hw; clear hw; have f0 := (HBr.out.br.below Hw.out).cell; have f1 := (HBr.out.br.below Hw.out).frozen)
            have hb3 : Below w.heap.size w (w3.setCell ⟨w.heap.size, 0, none⟩ (.bool true)) := below_set (HBr.out.bel.trans (Hw.out.mono HBr.out.bel.size)) (Nat.le_refl _)
            have f3 := ((HBr.out.br.below Hw.out).set (v' := .bool true)).cell
            refine ⟨.bool true, ?_, rfl, hb3⟩
            simp [results, Try.results10, go_sem, f3]
          have hk1' : ¬ (100 : Int) < (xk.size : Int) := by omega
          have hput := put_one xk ⟨#[98, 101, 116, 119, 101, 101, 110]⟩ (by omega) U j wr HU.out (by omega)
          rw [HQ.out] at hput
          have Hput := Lib.hid hput; clear hput
          go_wp2_with ((with_reducible refine Hput.out.mono ?_); clear Hput; rintro e w4 ⟨X, rfl, hx⟩; have Hx := Lib.hid hx; clear hx)
          go_roundw
          case rel => exact ⟨j + 1, X, hi1, rfl, rfl, Hx.out.ok, HX.out.put Hx.out (.inl HkB.out), Hbr.out.trans (Hx.out.bel.mono Hbr.out.size)⟩
          case measure => simp [intOf]; omega
        · have hlt' : ¬ (j : Int) < (nb : Int) := by omega
          obtain rfl : nb = j := by omega
          go_upto_region 19 with fail
          clear hlt hlt' hi HBr
          generalize wr = wB at *
          go_wp2_with fail
          go_loopw [10, 12] (fun s10 s12 wr => ∃ (i : Nat) (U : Tr), i ≤ no ∧ s12 = .int .i64 (i : Int) ∧ s10 = .pointer U.ptr ∧ TOk wr (nb + i) U ∧ Mixed S B U.sh ∧ Below wA.heap.size wA wr) (fun _ s12 _ => no - (intOf s12).toNat)
          case atStart => exact ⟨0, U, by omega, rfl, by rw [HQ.out], HU.out, HX.out, Hbr.out⟩
          case round =>
            clear HU HX Hbr HQ
            obtain ⟨i, U2, hi, rfl, rfl, hu, hmix, hbr⟩ := hrel
            have HU := Lib.hid hu; clear hu
            have HX := Lib.hid hmix; clear hmix
            have Hbr := Lib.hid hbr; clear hbr
            obtain ⟨Q2, hQ⟩ : ∃ P, U2.ptr = P := ⟨_, rfl⟩
            rw [hQ]
            have HQ := Lib.hid hQ; clear hQ
            go_upto_region 20 with fail
            go_cut [116] from 108 to 145 (fun s116 wx => wr = wx ∧ s116 = .bool (decide (i < no ∧ 0 < n)))
            case first =>
              by_cases hlt : i < no
              · have hlt' : (i : Int) < (no : Int) := by omega
                by_cases hn0 : 0 < n
                · have hn0' : (0 : Int) < (n : Int) := by omega
                  have hdec : decide (i < no ∧ 0 < n) = true := by simp [hlt, hn0]
                  go_wp2_with fail
                  go_meet
                  exact ⟨rfl, by rw [hdec]⟩
                · have hn0' : ¬ (0 : Int) < (n : Int) := by omega
                  have hdec : decide (i < no ∧ 0 < n) = false := by simp [hn0]
                  go_wp2_with fail
                  go_meet
                  exact ⟨rfl, by rw [hdec]⟩
              · have hlt' : ¬ (i : Int) < (no : Int) := by omega
                have hdec : decide (i < no ∧ 0 < n) = false := by simp [hlt]
                go_wp2_with fail
                go_meet
                exact ⟨rfl, by rw [hdec]⟩
            case rest =>
            obtain ⟨rfl, rfl⟩ := hcut
            by_cases hgo : i < no ∧ 0 < n
            · have hdec : decide (i < no ∧ 0 < n) = true := by simp [hgo]
              rw [hdec]
              clear hdec
              obtain ⟨hlt, hn0⟩ := hgo
              have hlt' : (i : Int) < (no : Int) := by omega
              have hn0' : (0 : Int) < (n : Int) := by omega
              have hnz : ((n : Int) == 0) = false := by simp; omega
              obtain ⟨b, o, rfl, hbl, c0⟩ := ints_get (H1.out.below (HB.out.below Hbr.out).bel) hlt
              have hsucc := tsucc (n := i) (by omega)
              have hi1 : i + 1 ≤ no := hlt
              generalize O.getD i 0 = on at *
              go_upto_region 23 with fail
              have hr1 : on.tmod (n : Int) < (n : Int) := Int.tmod_lt_of_pos on hn0'
              have hr2 : -(n : Int) < on.tmod (n : Int) := Int.lt_tmod_of_pos on hn0'
              generalize on.tmod (n : Int) = r at *
              clear c0 hbl
              by_cases hneg : r < 0
              · obtain ⟨q, hq⟩ : ∃ q : Nat, r + (n : Int) = (q : Int) := ⟨(r + (n : Int)).toNat, by omega⟩
                have hw : IntKind.i64.wrap (r + (n : Int)) = (q : Int) := by rw [hq, IntKind.wrap_i64] <;> omega
                go_upto_region 25 with fail
                clear hw
                have hqn : q < n := by omega
                have hqn' : (q : Int) < (n : Int) := by omega
                obtain ⟨b0, o0, hA0, hbl, c0, _⟩ := pairs_get (H0.out.below (HB.out.below Hbr.out).bel) hqn
                subst hA0
                obtain ⟨xk, hxk⟩ : ∃ k, (L.getD q pdflt).1 = k := ⟨_, rfl⟩
                rw [hxk] at c0
                have Hc := Lib.hid (show ∀ y, Below wr.heap.size wr y → y.cell? ⟨b0, o0 + q * 2, none⟩ = some (.string xk) from fun y hy => (hy.cell (p := ⟨b0, _, none⟩) hbl).trans c0)
                clear c0 hbl
                obtain ⟨xv, hxv⟩ := Option.isSome_iff_exists.1 (HF.out.cov q hqn)
                rw [hxk] at hxv
                have hmg : mget m xk = some (.string xv) := by rw [HM.out.get, hxv]; rfl
                have hks : xk.size ≤ 100 := by
                  have h := HT.out.keys xk (by rw [HS.out, hxv]; rfl)
                  exact h
                have Hxk := Lib.hid (And.intro hxk hxv); clear hxk hxv
                have Hmg := Lib.hid hmg; clear hmg
                refine (wpIn_wide (n := 1)).1 ?_
                refine RegK.wpIn_region_calm (F := Fence.wide) (KeptW wr) [(0, 0), (1, 0), (2, 0), (3, 0), (4, 0), (5, 0), (6, 0), (7, 0), (8, 0), (9, 0), (10, 0), (11, 0), (12, 0), (13, 1), (14, 0)] (by kernel_rfl) (by kernel_rfl) (by kernel_rfl) (KeptW.drew wr) ?_
                dsimp only [RegK.pick, List.getElem?_cons_zero, List.getElem?_cons_succ]
                change RegK.Can _ _ _ _ _ _ _ _ wr.drew
                iterate 5 (refine RegK.can_reads ?_; intro K hK; go_simp; (first | (refine ⟨_, fun _ _ => rfl, hK _ ?_⟩) | (refine hK _ ?_)); clear hK K)
                refine RegK.can_reads ?_
                intro K hK
                go_simp
                refine ⟨.string xk, fun y hy => ?_, hK _ ?_⟩
                · have f0 := Hc.out y (KeptW.bel hy)
                  go_simp
                clear hK K
                refine RegK.can_reads ?_
                intro K hK
                go_simp
                refine ⟨.map (some mb), fun y hy => ?_, hK _ ?_⟩
                · have f0 := ((HB.out.below Hbr.out).mv.below (KeptW.bel hy)).cell
                  go_simp
                clear hK K
                iterate 4 (refine RegK.can_reads ?_; intro K hK; go_simp; (first | (refine ⟨_, fun _ _ => rfl, hK _ ?_⟩) | (refine hK _ ?_)); clear hK K)
                refine RegK.can_reads ?_
                intro K hK
                go_simp
                refine ⟨.string xk, fun y hy => ?_, hK _ ?_⟩
                · have f0 := Hc.out y (KeptW.bel hy)
                  go_simp
                clear hK K
                refine RegK.can_reads ?_
                intro K hK
                go_simp
                refine ⟨.string xv, fun y hy => ?_, hK _ ?_⟩
                · have f0 := run_lookup_at kStr ((HB.out.below Hbr.out).mp.below kStr (KeptW.bel hy)) Try.underlying87 (zStr y) xk false
                  rw [Hmg.out] at f0
                  have f1 : (Instr.lookup 87 (.map (some mb)) (.string xk) false).run Try.prog y = .ok (.string xv) y := f0
                  clear f0
                  go_simp
                clear hK K
                refine RegK.can_narrows (fun _ => trivial) ?_
                intro K K0 hK hK0
                go_simp
                refine ⟨trivial, ?_⟩
                have hput := put_one xk xv hks U2 (nb + i) wr.drew (HU.out.below (KeptW.bel (KeptW.drew wr))) (by omega)
                rw [HQ.out] at hput
                refine (callsIn_wide.2 hput).mono ?_
                clear hput
                rintro e w4 ⟨X, rfl, hx⟩
                have hx4 : KeptW wr w4 := KeptW.mono (KeptW.drew wr) hx.bel
                refine hK (KeptW wr) _ _ (fun y h => h) hx4 ?_
                clear hK K K0 hK0
                have Hx := Lib.hid hx; clear hx
                have Hb4 := Lib.hid (Hbr.out.trans ((KeptW.bel hx4).mono Hbr.out.size)); clear hx4
                iterate 1 (refine RegK.can_reads ?_; intro K hK; go_simp; (first | (refine ⟨_, fun _ _ => rfl, hK _ ?_⟩) | (refine hK _ ?_)); clear hK K)
                refine RegK.can_calm ?_
                go_wp2_with fail
                go_roundw
                case rel =>
                  exact ⟨i + 1, X, hi1, rfl, rfl, Hx.out.ok, HX.out.put Hx.out (.inr Hxk.out.2), Hb4.out⟩
                case measure => simp [intOf]; omega
              · obtain ⟨q, hq⟩ : ∃ q : Nat, r = (q : Int) := ⟨r.toNat, by omega⟩
                subst hq
                have hneg' : ¬ (q : Int) < 0 := hneg
                go_upto_region 25 with fail
                have hqn : q < n := by omega
                have hqn' : (q : Int) < (n : Int) := by omega
                obtain ⟨b0, o0, hA0, hbl, c0, _⟩ := pairs_get (H0.out.below (HB.out.below Hbr.out).bel) hqn
                subst hA0
                obtain ⟨xk, hxk⟩ : ∃ k, (L.getD q pdflt).1 = k := ⟨_, rfl⟩
                rw [hxk] at c0
                have Hc := Lib.hid (show ∀ y, Below wr.heap.size wr y → y.cell? ⟨b0, o0 + q * 2, none⟩ = some (.string xk) from fun y hy => (hy.cell (p := ⟨b0, _, none⟩) hbl).trans c0)
                clear c0 hbl
                obtain ⟨xv, hxv⟩ := Option.isSome_iff_exists.1 (HF.out.cov q hqn)
                rw [hxk] at hxv
                have hmg : mget m xk = some (.string xv) := by rw [HM.out.get, hxv]; rfl
                have hks : xk.size ≤ 100 := by
                  have h := HT.out.keys xk (by rw [HS.out, hxv]; rfl)
                  exact h
                have Hxk := Lib.hid (And.intro hxk hxv); clear hxk hxv
                have Hmg := Lib.hid hmg; clear hmg
                refine (wpIn_wide (n := 1)).1 ?_
                refine RegK.wpIn_region_calm (F := Fence.wide) (KeptW wr) [(0, 0), (1, 0), (2, 0), (3, 0), (4, 0), (5, 0), (6, 0), (7, 0), (8, 0), (9, 0), (10, 0), (11, 0), (12, 0), (13, 1), (14, 0)] (by kernel_rfl) (by kernel_rfl) (by kernel_rfl) (KeptW.drew wr) ?_
                dsimp only [RegK.pick, List.getElem?_cons_zero, List.getElem?_cons_succ]
                change RegK.Can _ _ _ _ _ _ _ _ wr.drew
                iterate 5 (refine RegK.can_reads ?_; intro K hK; go_simp; (first | (refine ⟨_, fun _ _ => rfl, hK _ ?_⟩) | (refine hK _ ?_)); clear hK K)
                refine RegK.can_reads ?_
                intro K hK
                go_simp
                refine ⟨.string xk, fun y hy => ?_, hK _ ?_⟩
                · have f0 := Hc.out y (KeptW.bel hy)
                  go_simp
                clear hK K
                refine RegK.can_reads ?_
                intro K hK
                go_simp
                refine ⟨.map (some mb), fun y hy => ?_, hK _ ?_⟩
                · have f0 := ((HB.out.below Hbr.out).mv.below (KeptW.bel hy)).cell
                  go_simp
                clear hK K
                iterate 4 (refine RegK.can_reads ?_; intro K hK; go_simp; (first | (refine ⟨_, fun _ _ => rfl, hK _ ?_⟩) | (refine hK _ ?_)); clear hK K)
                refine RegK.can_reads ?_
                intro K hK
                go_simp
                refine ⟨.string xk, fun y hy => ?_, hK _ ?_⟩
                · have f0 := Hc.out y (KeptW.bel hy)
                  go_simp
                clear hK K
                refine RegK.can_reads ?_
                intro K hK
                go_simp
                refine ⟨.string xv, fun y hy => ?_, hK _ ?_⟩
                · have f0 := run_lookup_at kStr ((HB.out.below Hbr.out).mp.below kStr (KeptW.bel hy)) Try.underlying87 (zStr y) xk false
                  rw [Hmg.out] at f0
                  have f1 : (Instr.lookup 87 (.map (some mb)) (.string xk) false).run Try.prog y = .ok (.string xv) y := f0
                  clear f0
                  go_simp
                clear hK K
                refine RegK.can_narrows (fun _ => trivial) ?_
                intro K K0 hK hK0
                go_simp
                refine ⟨trivial, ?_⟩
                have hput := put_one xk xv hks U2 (nb + i) wr.drew (HU.out.below (KeptW.bel (KeptW.drew wr))) (by omega)
                rw [HQ.out] at hput
                refine (callsIn_wide.2 hput).mono ?_
                clear hput
                rintro e w4 ⟨X, rfl, hx⟩
                have hx4 : KeptW wr w4 := KeptW.mono (KeptW.drew wr) hx.bel
                refine hK (KeptW wr) _ _ (fun y h => h) hx4 ?_
                clear hK K K0 hK0
                have Hx := Lib.hid hx; clear hx
                have Hb4 := Lib.hid (Hbr.out.trans ((KeptW.bel hx4).mono Hbr.out.size)); clear hx4
                iterate 1 (refine RegK.can_reads ?_; intro K hK; go_simp; (first | (refine ⟨_, fun _ _ => rfl, hK _ ?_⟩) | (refine hK _ ?_)); clear hK K)
                refine RegK.can_calm ?_
                go_wp2_with fail
                go_roundw
                case rel =>
                  exact ⟨i + 1, X, hi1, rfl, rfl, Hx.out.ok, HX.out.put Hx.out (.inr Hxk.out.2), Hb4.out⟩
                case measure => simp [intOf]; omega
            · have hdec : decide (i < no ∧ 0 < n) = false := by simp [hgo]
              rw [hdec]
              clear hdec
              have HU4 := Lib.hid (HU.out.mono (show nb + i ≤ nb + no by omega))
              have hwn : IntKind.i64.wrap ((n : Int) - 1) = (n : Int) - 1 := by rw [IntKind.wrap_i64] <;> omega
              go_upto_region 27 with fail
              clear hwn hgo
              go_loopw [10, 14] (fun s10 s14 wr => ∃ (c : Nat) (U : Tr), c ≤ n ∧ s14 = .int .i64 ((c : Int) - 1) ∧ s10 = .pointer U.ptr ∧ TOk wr (nb + no + (n - c)) U ∧ Mixed S B U.sh ∧ Behind L S c U.sh ∧ Below wA.heap.size wA wr) (fun _ s14 _ => (intOf s14 + 1).toNat)
              case atStart => exact ⟨n, U2, Nat.le_refl _, rfl, by rw [HQ.out], HU4.out.mono (by omega), HX.out, fun j h1 h2 => by have := HLn.out; omega, Hbr.out⟩
              case round =>
                clear HU HX Hbr HQ HU4 hi
                obtain ⟨c, U2, hi, rfl, rfl, hu, hmix, hbh, hbr⟩ := hrel
                have HU := Lib.hid hu; clear hu
                have HX := Lib.hid hmix; clear hmix
                have HH := Lib.hid hbh; clear hbh
                have Hbr := Lib.hid hbr; clear hbr
                obtain ⟨Q2, hQ⟩ : ∃ P, U2.ptr = P := ⟨_, rfl⟩
                rw [hQ]
                have HQ := Lib.hid hQ; clear hQ
                match c with
                | i + 1 =>
                  have hv : ((i + 1 : Nat) : Int) - 1 = (i : Int) := by omega
                  rw [hv]
                  clear hv
                  have hge : (0 : Int) ≤ (i : Int) := by omega
                  have hw2 : IntKind.i64.wrap ((i : Int) - 1) = (i : Int) - 1 := by rw [IntKind.wrap_i64] <;> omega
                  go_upto_region 29 with fail
                  have hqn : i < n := by omega
                  have hqn' : (i : Int) < (n : Int) := by omega
                  obtain ⟨b0, o0, hA0, hbl, c0, _⟩ := pairs_get (H0.out.below (HB.out.below Hbr.out).bel) hqn
                  subst hA0
                  obtain ⟨xk, hxk⟩ : ∃ k, (L.getD i pdflt).1 = k := ⟨_, rfl⟩
                  rw [hxk] at c0
                  have Hc := Lib.hid (show ∀ y, Below wr.heap.size wr y → y.cell? ⟨b0, o0 + i * 2, none⟩ = some (.string xk) from fun y hy => (hy.cell (p := ⟨b0, _, none⟩) hbl).trans c0)
                  clear c0 hbl
                  obtain ⟨xv, hxv⟩ := Option.isSome_iff_exists.1 (HF.out.cov i hqn)
                  rw [hxk] at hxv
                  have hmg : mget m xk = some (.string xv) := by rw [HM.out.get, hxv]; rfl
                  have hks : xk.size ≤ 100 := by
                    have h := HT.out.keys xk (by rw [HS.out, hxv]; rfl)
                    exact h
                  have Hxk := Lib.hid (And.intro hxk hxv); clear hxk hxv
                  have Hmg := Lib.hid hmg; clear hmg
                  refine (wpIn_wide (n := 1)).1 ?_
                  refine RegK.wpIn_region_calm (F := Fence.wide) (KeptW wr) [(0, 0), (1, 0), (2, 0), (3, 0), (4, 0), (5, 0), (6, 0), (7, 0), (8, 0), (9, 0), (10, 0), (11, 0), (12, 0), (13, 1), (14, 0)] (by kernel_rfl) (by kernel_rfl) (by kernel_rfl) (KeptW.drew wr) ?_
                  dsimp only [RegK.pick, List.getElem?_cons_zero, List.getElem?_cons_succ]
                  change RegK.Can _ _ _ _ _ _ _ _ wr.drew
                  iterate 5 (refine RegK.can_reads ?_; intro K hK; go_simp; (first | (refine ⟨_, fun _ _ => rfl, hK _ ?_⟩) | (refine hK _ ?_)); clear hK K)
                  refine RegK.can_reads ?_
                  intro K hK
                  go_simp
                  refine ⟨.string xk, fun y hy => ?_, hK _ ?_⟩
                  · have f0 := Hc.out y (KeptW.bel hy)
                    go_simp
                  clear hK K
                  refine RegK.can_reads ?_
                  intro K hK
                  go_simp
                  refine ⟨.map (some mb), fun y hy => ?_, hK _ ?_⟩
                  · have f0 := ((HB.out.below Hbr.out).mv.below (KeptW.bel hy)).cell
                    go_simp
                  clear hK K
                  iterate 4 (refine RegK.can_reads ?_; intro K hK; go_simp; (first | (refine ⟨_, fun _ _ => rfl, hK _ ?_⟩) | (refine hK _ ?_)); clear hK K)
                  refine RegK.can_reads ?_
                  intro K hK
                  go_simp
                  refine ⟨.string xk, fun y hy => ?_, hK _ ?_⟩
                  · have f0 := Hc.out y (KeptW.bel hy)
                    go_simp
                  clear hK K
                  refine RegK.can_reads ?_
                  intro K hK
                  go_simp
                  refine ⟨.string xv, fun y hy => ?_, hK _ ?_⟩
                  · have f0 := run_lookup_at kStr ((HB.out.below Hbr.out).mp.below kStr (KeptW.bel hy)) Try.underlying87 (zStr y) xk false
                    rw [Hmg.out] at f0
                    have f1 : (Instr.lookup 87 (.map (some mb)) (.string xk) false).run Try.prog y = .ok (.string xv) y := f0
                    clear f0
                    go_simp
                  clear hK K
                  refine RegK.can_narrows (fun _ => trivial) ?_
                  intro K K0 hK hK0
                  go_simp
                  refine ⟨trivial, ?_⟩
                  have hput := put_one xk xv hks U2 (nb + no + (n - (i + 1))) wr.drew (HU.out.below (KeptW.bel (KeptW.drew wr))) (by omega)
                  rw [HQ.out] at hput
                  refine (callsIn_wide.2 hput).mono ?_
                  clear hput
                  rintro e w4 ⟨X, rfl, hx⟩
                  have hx4 : KeptW wr w4 := KeptW.mono (KeptW.drew wr) hx.bel
                  refine hK (KeptW wr) _ _ (fun y h => h) hx4 ?_
                  clear hK K K0 hK0
                  have Hx := Lib.hid hx; clear hx
                  have Hb4 := Lib.hid (Hbr.out.trans ((KeptW.bel hx4).mono Hbr.out.size)); clear hx4
                  iterate 1 (refine RegK.can_reads ?_; intro K hK; go_simp; (first | (refine ⟨_, fun _ _ => rfl, hK _ ?_⟩) | (refine hK _ ?_)); clear hK K)
                  refine RegK.can_calm ?_
                  go_wp2_with fail
                  go_roundw
                  case rel =>
                    exact ⟨i, X, by omega, rfl, rfl, Hx.out.ok.mono (by omega), HX.out.put Hx.out (.inr Hxk.out.2), Behind.put HH.out (v := xv) (by rw [Hxk.out.1]; exact Hx.out) (by rw [Hxk.out.1]; exact Hxk.out.2), Hb4.out⟩
                  case measure => simp [intOf]
                | 0 =>
                  have hv : ((0 : Nat) : Int) - 1 = -1 := by omega
                  rw [hv]
                  clear hv
                  have hr0 : Rest S B 0 U2.sh := Rest.start (by rw [HLn.out]; exact HF.out) HH.out HX.out
                  have HR := Lib.hid hr0; clear hr0
                  have HBd := Lib.hid (HB.out.below Hbr.out)
                  have HTd := Lib.hid (HT.out.below Hbr.out)
                  have HUd := Lib.hid (HU.out.mono (show nb + no + (n - 0) ≤ 400 by omega))
                  clear HB HT HU HX HH Hbr
                  generalize wr = wD at *
                  have Hdf := Lib.hid (callsIn_wide.1 (diff_in 1 P Q2 wD))
                  have hseq := dseq_some
                  go_wp2_with ((with_reducible refine Hdf.out.mono ?_); rintro e w' ⟨rfl, rfl⟩)
                  clear hseq Hdf
                  have hu1 : Below wD.heap.size wD ((wD.alloc (.cells #[.pointer P] 58)).alloc (.cells #[.pointer Q2] 58)) := ((Below.refl _ _).alloc (Nat.le_refl _) _).alloc (by simp) _
                  have hsz : ((wD.alloc (.cells #[.pointer P] 58)).alloc (.cells #[.pointer Q2] 58)).heap.size = wD.heap.size + 2 := by simp
                  have hba := (BoxAt.new wD (.pointer P) 58).below ((Below.refl _ _).alloc (Nat.le_refl _) (.cells #[.pointer Q2] 58))
                  have hbb := BoxAt.new (wD.alloc (.cells #[.pointer P] 58)) (.pointer Q2) 58
                  rw [World.size_alloc] at hbb
                  generalize (wD.alloc (.cells #[.pointer P] 58)).alloc (.cells #[.pointer Q2] 58) = za at *
                  have hloA : T.Lo wD.heap.size := HTd.out.at_.lo
                  have hloB : U2.Lo wD.heap.size := HUd.out.at_.lo
                  have hstops := diff_stopsG (Told T.sh U2.sh) (mm - 1) wD.heap.size (wD.heap.size + 1) (wD.heap.size) (wD.heap.size + 2) T U2 za (by omega) (by omega) (by omega) (by omega) (by rw [HP.out]; exact hba.cell) (by rw [HQ.out]; exact hbb.cell) (HTd.out.at_.below hu1) (HUd.out.at_.below hu1) hloA.outOf hloB.outOf HTd.out.asc HUd.out.asc (by have h1 := HTd.out.cnt; have h2 := HUd.out.cnt; omega) (told_all HTd.out HUd.out)
                  have Hstops := Lib.hid hstops; clear hstops
                  have Hsz := Lib.hid hsz; clear hsz
                  have Hxz := Lib.hid hu1; clear hu1
                  clear hloA hloB hba hbb
                  refine (wpIn_wide (n := mm)).1 ?_
                  refine Range.wpIn_range (F := Fence.wide) rfl (by omega) (gf := 66) (lb := #[.pointer (some ⟨wD.heap.size, 0, none⟩), .pointer (some ⟨wD.heap.size + 1, 0, none⟩)]) rfl trivial (enters_of Try.func66 (by kernel_rfl) rfl)
                    Hstops.out (fun h k => h.trans k) (keepC_b (by have := Hsz.out; omega)) (Below.refl _ _) (fun _ => rfl)
                    (fun _ W => Below za.heap.size za W) (fun _ _ _ => False) (fun s W W' row hs hg hr => below_own (Nat.le_refl _) hs hg hr) (fun _ _ _ _ _ h _ _ => h) (Below.refl _ _) ?round ?done ?stop
                  case stop =>
                    rintro E c pre W hE hpre h _
                    exact h.elim
                  case round =>
                    rintro l pre x W hi hlen
                    clear Hstops
                    obtain ⟨⟨xk, xo, xn, xa, xb⟩, hx⟩ := x
                    have hno2 : S.look xk = none := by
                      have := told_not hx (by rw [HS.out]; exact HR.out)
                      rw [HS.out] at this
                      exact this
                    have hmg : mget m xk = none := by rw [HM.out.get, hno2]; rfl
                    have Hmg := Lib.hid hmg; clear hmg hno2
                    have Hi := Lib.hid hi; clear hi
                    dsimp only
                    gi_wp2
                    refine ⟨KeepsFrom.refl _ _, KeepC.refl _ _ _, fun W2 hT => ?_⟩
                    have hi2 := Hi.out.trans (turned_below (Nat.le_refl _) hT)
                    have hbw := HBd.out.below (Hxz.out.trans (hi2.mono Hxz.out.size))
                    have Hi2 := Lib.hid hi2; clear hi2 hT Hi
                    have f0 := hbw.mv.cell
                    have f1 := run_lookup_at kStr hbw.mp Try.underlying87 (zStr W2) xk true
                    rw [Hmg.out] at f1
                    have f2 : (Instr.lookup 87 (.map (some mb)) (.string xk) true).run Try.prog W2 = .ok (.tuple #[.string ByteArray.empty, .bool false]) W2 := f1
                    clear f1 hbw
                    gi_wp2
                    exact ⟨KeepsFrom.refl _ _, KeepC.refl _ _ _, Hi2.out⟩
                  case done =>
                    rintro E1 ys W hE1 _ hI hK1
                    clear Hstops
                    have hW := Hxz.out.trans (hI.mono Hxz.out.size)
                    have HBe := Lib.hid (HBd.out.below hW)
                    have HTe := Lib.hid (HTd.out.below hW)
                    have HUe := Lib.hid (HUd.out.below hW)
                    have HK1 := Lib.hid hK1; clear hK1
                    have HO1 := Lib.hid (show w.heap.size < E1 from Nat.lt_of_lt_of_le HBd.out.br.lt (Nat.le_trans Hxz.out.size hE1))
                    clear HBd HTd HUd hW hI hE1 Hxz Hsz
                    have hbv := BoxAt.new W (.pointer P) 58
                    have hbW := (Below.refl W.heap.size W).alloc (Nat.le_refl _) (.cells #[.pointer P] 58)
                    have hWs : (W.alloc (.cells #[.pointer P] 58)).heap.size = W.heap.size + 1 := by simp
                    have HBf := Lib.hid (HBe.out.below hbW)
                    have HTf := Lib.hid (HTe.out.below hbW)
                    have HUf := Lib.hid (HUe.out.below hbW)
                    have HK1f := Lib.hid ((hbW.block E1 (Array.getElem?_eq_some_iff.1 HK1.out).1).trans HK1.out)
                    have HE1 := Lib.hid (show E1 < W.heap.size from (Array.getElem?_eq_some_iff.1 HK1.out).1)
                    have Hgv := Lib.hid (show gm < W.heap.size from HBe.out.mv.lt)
                    have HTlo := Lib.hid (show T.Lo W.heap.size from HTe.out.at_.lo)
                    have HUlo := Lib.hid (show U2.Lo W.heap.size from HUe.out.at_.lo)
                    go_upto_region 39 with fail
                    change Code.wp _ _ _ _ (W.alloc (.cells #[.pointer P] 58))
                    generalize W.alloc (.cells #[.pointer P] 58) = wF at *
                    have Hbv := Lib.hid hbv; clear hbv
                    clear HBe HTe HUe HK1 hbW
                    obtain ⟨gv, hgv⟩ : ∃ g, W.heap.size = g := ⟨_, rfl⟩
                    rw [hgv] at Hbv hWs HE1 Hgv HTlo HUlo ⊢
                    clear hgv
                    have HFs := Lib.hid hWs; clear hWs
                    have Hdf := Lib.hid (callsIn_wide.1 (diff_in 1 P Q2 wF))
                    have hseq := dseq_some
                    go_wp2_with ((with_reducible refine Hdf.out.mono ?_); rintro e w' ⟨rfl, rfl⟩)
                    clear hseq Hdf
                    have hu1 : Below wF.heap.size wF ((wF.alloc (.cells #[.pointer P] 58)).alloc (.cells #[.pointer Q2] 58)) := ((Below.refl _ _).alloc (Nat.le_refl _) _).alloc (by simp) _
                    have hsz : ((wF.alloc (.cells #[.pointer P] 58)).alloc (.cells #[.pointer Q2] 58)).heap.size = wF.heap.size + 2 := by simp
                    have hba := (BoxAt.new wF (.pointer P) 58).below ((Below.refl _ _).alloc (Nat.le_refl _) (.cells #[.pointer Q2] 58))
                    have hbb := BoxAt.new (wF.alloc (.cells #[.pointer P] 58)) (.pointer Q2) 58
                    rw [World.size_alloc] at hbb
                    generalize (wF.alloc (.cells #[.pointer P] 58)).alloc (.cells #[.pointer Q2] 58) = zb at *
                    have hloA : T.Lo wF.heap.size := HTf.out.at_.lo
                    have hloB : U2.Lo wF.heap.size := HUf.out.at_.lo
                    have hloA : T.Lo gv := HTlo.out
                    have hloB : U2.Lo gv := HUlo.out
                    have hgs : wF.heap.size = gv + 1 := HFs.out
                    rw [hgs] at hsz hbb hba ⊢
                    have hstops := diff_stopsG (Told T.sh U2.sh) (mm - 1) (gv + 1) (gv + 1 + 1) gv (gv + 1 + 2) T U2 zb (by omega) (by omega) (by omega) (by omega) (by rw [HP.out]; exact hba.cell) (by rw [HQ.out]; exact hbb.cell) (HTf.out.at_.below hu1) (HUf.out.at_.below hu1) hloA.outOf hloB.outOf HTf.out.asc HUf.out.asc (by have h1 := HTf.out.cnt; have h2 := HUf.out.cnt; omega) (told_all HTf.out HUf.out)
                    have Hstops := Lib.hid hstops; clear hstops
                    have Hsz := Lib.hid hsz; clear hsz
                    have Hxz := Lib.hid hu1; clear hu1
                    clear hloA hloB hba hbb hgs
                    have hlen500 : (diffL T.kvs U2.kvs).length ≤ 600 := by
                      have h1 := diff_len _ (A := T.sh.kv) (B := U2.sh.kv) (Nat.le_refl _)
                      have h2 := HTf.out.cnt
                      have h3 := HUf.out.cnt
                      rw [sh_cnt, cnt_kv] at h2 h3
                      show (diffL T.sh.kv U2.sh.kv).length ≤ 600
                      omega
                    have hI0 : RunI gv zb T U2 [] zb := ⟨T, by rw [HP.out]; exact Hbv.out.below Hxz.out, (HTf.out.below Hxz.out).mono (by omega), Led.nil _ _, Below.refl _ _⟩
                    have HI0 := Lib.hid hI0; clear hI0
                    refine (wpIn_wide (n := mm)).1 ?_
                    refine Range.wpIn_range (F := Fence.wide) rfl (by omega) (gf := 66) (lb := #[.pointer (some ⟨gv + 1, 0, none⟩), .pointer (some ⟨gv + 1 + 1, 0, none⟩)]) rfl trivial (enters_of Try.func66 (by kernel_rfl) rfl)
                      Hstops.out (fun h k => h.trans k) (keepC_b (by have := Hsz.out; omega)) (Below.refl _ _) (fun _ => rfl)
                      (RunI gv zb T U2) (fun _ _ _ => False) (RunI.own (by have := Hsz.out; omega)) (fun _ _ _ _ _ h _ _ => h) HI0.out ?round2 ?done2 ?stop2
                    case stop2 =>
                      rintro E c pre V hE hpre h _
                      exact h.elim
                    case round2 =>
                      rintro l pre x V hi hlen
                      clear HI0 Hstops
                      obtain ⟨⟨xk, xo, xn, xa, xb⟩, hx⟩ := x
                      have Hi := Lib.hid hi; clear hi
                      dsimp only [chgV, chgCells]
                      gi_wp2
                      have hbW : Below V.heap.size V (V.alloc (.cells (chgCells xo xn xa xb) 81)) := (Below.refl _ _).alloc (Nat.le_refl _) _
                      have hnW : ChgAt (V.alloc (.cells (chgCells xo xn xa xb) 81)) V.heap.size xo xn xa xb := heap_alloc_new V _
                      have hgV : gv < V.heap.size := by obtain ⟨_, h1, _⟩ := Hi.out; exact h1.lt
                      refine ⟨keepsFrom_below hbW, KeepC.of_below hbW (by omega), fun W2 hT => ?_⟩
                      have hT' : Range.Turned zb.heap.size l (V.alloc (.cells (chgCells xo xn xa xb) 81)) W2 := hT
                      have hi2 : RunI gv zb T U2 pre W2 := (Hi.out.below hbW).turned (by have := Hsz.out; omega) hT'
                      have hn2 : ChgAt W2 V.heap.size xo xn xa xb := turned_cells hT' hnW
                      generalize V.heap.size = g9 at *
                      clear hT hT' hbW hnW Hi
                      obtain ⟨Y, y1, y2, y3, y4⟩ := hi2
                      obtain ⟨PY, hPY⟩ : ∃ P, Y.ptr = P := ⟨_, rfl⟩
                      have hcy := y1.cell
                      have hfy := y1.frozen
                      rw [hPY] at hcy
                      obtain ⟨n0, n1, n2, n3⟩ := hn2.cells
                      have Hn2 := Lib.hid hn2; clear hn2
                      have Hy1 := Lib.hid y1; clear y1
                      have Hy2 := Lib.hid y2; clear y2
                      have Hy3 := Lib.hid y3; clear y3
                      have Hy4 := Lib.hid y4; clear y4
                      obtain ⟨t1, t2, t3⟩ := told_look hx
                      have hlen7 : pre.length ≤ 600 := by omega
                      cases hu : U2.sh.look xk with
                      | some v =>
                        rw [hu] at t1 t2
                        simp only [Option.isSome_some, Option.getD_some] at t1 t2
                        subst t1 t2
                        have hput := put_one xk xn t3 Y (100 + pre.length) W2 Hy2.out (by omega)
                        rw [hPY] at hput
                        have Hput := Lib.hid hput; clear hput
                        have Hu := Lib.hid hu; clear hu
                        have HPY := Lib.hid hPY; clear hPY
                        gi_wp2_with (refine ⟨trivial, (fun h => (by cases h)), ?_⟩; refine (calls_round Hput.out).mono ?_; rintro e W3 ⟨X, rfl, hp⟩; have Hp := Lib.hid hp; clear hp; have g0 := (Hy1.out.below Hp.out.bel).cell; have g1 := (Hy1.out.below Hp.out.bel).frozen)
                        obtain ⟨r1, r2⟩ := runI_next (x := ⟨⟨xk, xo, xn, xa, true⟩, hx⟩) Hy3.out Hy1.out Hy4.out Hp.out Hu.out
                        exact ⟨keepsFrom_set (keepsFrom_below Hp.out.bel), r2, r1⟩
                      | none =>
                        rw [hu] at t1 t2
                        simp only [Option.isSome_none, Option.getD_none] at t1 t2
                        subst t1 t2
                        have hput := del_one xk Y (100 + pre.length) W2 Hy2.out (by omega)
                        rw [hPY] at hput
                        have Hput := Lib.hid hput; clear hput
                        have Hu := Lib.hid hu; clear hu
                        have HPY := Lib.hid hPY; clear hPY
                        gi_wp2_with (refine ⟨trivial, (fun h => (by cases h)), ?_⟩; refine (calls_round Hput.out).mono ?_; rintro e W3 ⟨X, rfl, hp⟩; have Hp := Lib.hid hp; clear hp; have g0 := (Hy1.out.below Hp.out.bel).cell; have g1 := (Hy1.out.below Hp.out.bel).frozen)
                        obtain ⟨r1, r2⟩ := runI_next (x := ⟨⟨xk, xo, ByteArray.empty, xa, false⟩, hx⟩) Hy3.out Hy1.out Hy4.out Hp.out Hu.out
                        exact ⟨keepsFrom_set (keepsFrom_below Hp.out.bel), r2, r1⟩
                    case done2 =>
                      rintro E2 ys2 V hE2 hys hI hK2
                      clear Hstops HI0
                      obtain ⟨Y, y1, y2, y3, y4⟩ := hI
                      have hlk : ∀ k, Y.sh.look k = U2.sh.look k := Led.end_ HTf.out.asc HUf.out.asc (by
                        have h := congrArg (List.map (fun c : Chg => c.key)) hys
                        rw [List.map_map] at h
                        exact h) y3
                      have hnil : diffL Y.kvs U2.kvs = [] := diff_nothing y2.asc HUf.out.asc hlk
                      have hzg : gv ≤ wF.heap.size := by have := HFs.out; omega
                      have HBg := Lib.hid ((HBf.out.below Hxz.out).low y4 Hgv.out)
                      have HTg := Lib.hid ((HTf.out.below Hxz.out).low y4 HTlo.out)
                      have HUg := Lib.hid ((HUf.out.below Hxz.out).low y4 HUlo.out)
                      have HK1g := Lib.hid ((y4.block E1 HE1.out).trans ((Hxz.out.block E1 (by have := HE1.out; omega)).trans HK1f.out))
                      have HK2 := Lib.hid hK2; clear hK2
                      have Hnil := Lib.hid hnil; clear hnil hlk
                      have Hyc := Lib.hid (show TOk V 1000 Y from y2.mono (by
                        have h1 : ys2.length = (diffL T.kvs U2.kvs).length := by
                          have h := congrArg List.length ‹List.map (fun x : {c : Chg // Told T.sh U2.sh c} => x.val) ys2 = diffL T.kvs U2.kvs›
                          simpa using h
                        omega))
                      have HO2 := Lib.hid (show E1 < E2 from Nat.lt_of_lt_of_le HE1.out (by have h1 := Hsz.out; have h2 := hE2; omega))
                      have Hy1 := Lib.hid y1; clear y1
                      clear y2 y3 y4 HBf HTf HUf HK1f hE2 Hxz Hsz HFs hlen500
                      obtain ⟨PY, hPY⟩ : ∃ P, Y.ptr = P := ⟨_, rfl⟩
                      rw [hPY] at Hy1
                      have HPY := Lib.hid hPY; clear hPY
                      have f0 := Hy1.out.cell
                      have Hdf := Lib.hid (callsIn_wide.1 (diff_in 1 PY Q2 V))
                      have hseq := dseq_some
                      go_wp2_with ((with_reducible refine Hdf.out.mono ?_); rintro e w' ⟨rfl, rfl⟩)
                      clear hseq Hdf f0
                      have hu1 : Below V.heap.size V ((V.alloc (.cells #[.pointer PY] 58)).alloc (.cells #[.pointer Q2] 58)) := ((Below.refl _ _).alloc (Nat.le_refl _) _).alloc (by simp) _
                      have hsz : ((V.alloc (.cells #[.pointer PY] 58)).alloc (.cells #[.pointer Q2] 58)).heap.size = V.heap.size + 2 := by simp
                      have hba := (BoxAt.new V (.pointer PY) 58).below ((Below.refl _ _).alloc (Nat.le_refl _) (.cells #[.pointer Q2] 58))
                      have hbb := BoxAt.new (V.alloc (.cells #[.pointer PY] 58)) (.pointer Q2) 58
                      rw [World.size_alloc] at hbb
                      generalize (V.alloc (.cells #[.pointer PY] 58)).alloc (.cells #[.pointer Q2] 58) = zc at *
                      have hloA : Y.Lo V.heap.size := Hyc.out.at_.lo
                      have hloB : U2.Lo V.heap.size := HUg.out.at_.lo
                      have hstops := diff_stops (mm - 1) V.heap.size (V.heap.size + 1) V.heap.size (V.heap.size + 2) Y U2 zc (by omega) (by omega) (by omega) (by omega) (by rw [HPY.out]; exact hba.cell) (by rw [HQ.out]; exact hbb.cell) (Hyc.out.at_.below hu1) (HUg.out.at_.below hu1) hloA.outOf hloB.outOf Hyc.out.asc HUg.out.asc (by have h1 := Hyc.out.cnt; have h2 := HUg.out.cnt; omega)
                      rw [Hnil.out] at hstops
                      have Hstops := Lib.hid hstops; clear hstops
                      have Hsz := Lib.hid hsz; clear hsz
                      have Hxz := Lib.hid hu1; clear hu1
                      clear hloA hloB hba hbb
                      refine (wpIn_wide (n := mm)).1 ?_
                      refine Range.wpIn_range (F := Fence.wide) rfl (by omega) (gf := 66) (lb := #[.pointer (some ⟨V.heap.size, 0, none⟩), .pointer (some ⟨V.heap.size + 1, 0, none⟩)]) rfl trivial (enters_of Try.func66 (by kernel_rfl) rfl)
                        Hstops.out (fun h k => h.trans k) (keepC_b (by have := Hsz.out; omega)) (Below.refl _ _) (fun _ => rfl)
                        (fun _ W => Below zc.heap.size zc W) (fun _ _ _ => False) (fun s W W' row hs hg hr => below_own (Nat.le_refl _) hs hg hr) (fun _ _ _ _ _ h _ _ => h) (Below.refl _ _) ?round3 ?done3 ?stop3
                      case round3 =>
                        rintro l pre x V2 hi hlen
                        exact absurd hlen (by simp)
                      case stop3 =>
                        rintro E c pre V2 hE hpre h _
                        exact h.elim
                      case done3 =>
                        rintro E3 ys3 W3 hE3 _ hI hK3
                        clear Hstops
                        have hW := Hxz.out.trans (hI.mono Hxz.out.size)
                        have HBh := Lib.hid (HBg.out.below hW)
                        have HTh := Lib.hid (HTg.out.below hW)
                        have HUh := Lib.hid (HUg.out.below hW)
                        have HK1h := Lib.hid ((hW.block E1 (Array.getElem?_eq_some_iff.1 HK1g.out).1).trans HK1g.out)
                        have HK2h := Lib.hid ((hW.block E2 (Array.getElem?_eq_some_iff.1 HK2.out).1).trans HK2.out)
                        have HK3 := Lib.hid hK3; clear hK3
                        have HO3 := Lib.hid (show E2 < E3 from Nat.lt_of_lt_of_le (Array.getElem?_eq_some_iff.1 HK2.out).1 (Nat.le_trans Hxz.out.size hE3))
                        clear HBg HTg HUg HK1g HK2 hW hI hE3 Hxz Hsz Hyc Hnil
                        go_wp2_with fail
                        go_loopw [10, 24] (fun s10 s24 wr => ∃ (j : Nat) (U : Tr), j ≤ nb ∧ s24 = .int .i64 (j : Int) ∧ s10 = .pointer U.ptr ∧ TOk wr (400 + j) U ∧ Rest S B j U.sh ∧ Below W3.heap.size W3 wr) (fun _ s24 _ => nb - (intOf s24).toNat)
                        case atStart => exact ⟨0, U2, by omega, rfl, by rw [HQ.out], HUh.out, HR.out, Below.refl _ _⟩
                        case round =>
                          clear HUh HR HQ
                          obtain ⟨j, U3, hi, rfl, rfl, hu, hrs, hbr⟩ := hrel
                          have HU := Lib.hid hu; clear hu
                          have HR := Lib.hid hrs; clear hrs
                          have Hbr := Lib.hid hbr; clear hbr
                          have HBr := Lib.hid (HBh.out.below Hbr.out)
                          obtain ⟨Q3, hQ⟩ : ∃ P, U3.ptr = P := ⟨_, rfl⟩
                          rw [hQ]
                          have HQ := Lib.hid hQ; clear hQ
                          by_cases hlt : j < nb
                          · have hlt' : (j : Int) < (nb : Int) := by omega
                            obtain ⟨b, o, hA2, hbl, c0⟩ := txts_get (H2.out.below HBr.out.bel) hlt
                            subst hA2
                            have hsucc := tsucc (n := j) (by omega)
                            have hi1 : j + 1 ≤ nb := hlt
                            obtain ⟨xk, hxk⟩ : ∃ k, B.getD j ByteArray.empty = k := ⟨_, rfl⟩
                            rw [hxk] at c0
                            have Hxk := Lib.hid hxk; clear hxk
                            have Hc := Lib.hid (show ∀ y, Below wr.heap.size wr y → y.cell? ⟨b, o + j, none⟩ = some (.string xk) from fun y hy => (hy.cell (p := ⟨b, _, none⟩) hbl).trans c0)
                            clear hbl
                            go_upto_region 56 with fail
                            obtain ⟨lk, hlk⟩ : ∃ l, S.look xk = l := ⟨_, rfl⟩
                            obtain ⟨zv, hzv⟩ : ∃ z, ((lk.map Value.string).getD (Value.string ByteArray.empty)) = z := ⟨_, rfl⟩
                            obtain ⟨bb, hbb⟩ : ∃ b, lk.isSome = b := ⟨_, rfl⟩
                            have Hmg := Lib.hid (show mget m xk = lk.map Value.string by rw [HM.out.get, hlk])
                            have Hzv := Lib.hid hzv; clear hzv
                            have Hbb := Lib.hid hbb; clear hbb
                            have Hlk := Lib.hid hlk; clear hlk
                            clear c0
                            refine (wpIn_wide (n := 1)).1 ?_
                            refine RegK.wpIn_region_calm (F := Fence.wide) (KeptW wr) [(0, 0), (1, 0), (2, 0), (3, 0), (4, 0), (5, 0), (6, 0), (7, 0), (8, 0), (9, 0), (10, 0)] (by kernel_rfl) (by kernel_rfl) (by kernel_rfl) (KeptW.drew wr) ?_
                            dsimp only [RegK.pick, List.getElem?_cons_zero, List.getElem?_cons_succ]
                            change RegK.Can _ _ _ _ _ _ _ _ wr.drew
                            refine RegK.can_reads ?_
                            intro K hK
                            go_simp
                            refine ⟨.map (some mb), fun y hy => ?_, hK _ ?_⟩
                            · have f0 := (HBr.out.mv.below (KeptW.bel hy)).cell
                              go_simp
                            clear hK K
                            iterate 3 (refine RegK.can_reads ?_; intro K hK; go_simp; (first | (refine ⟨_, fun _ _ => rfl, hK _ ?_⟩) | (refine hK _ ?_)); clear hK K)
                            refine RegK.can_reads ?_
                            intro K hK
                            go_simp
                            refine ⟨.string xk, fun y hy => ?_, hK _ ?_⟩
                            · have f0 := Hc.out y (KeptW.bel hy)
                              go_simp
                            clear hK K
                            refine RegK.can_reads ?_
                            intro K hK
                            go_simp
                            refine ⟨.tuple #[zv, .bool bb], fun y hy => ?_, hK _ ?_⟩
                            · have f0 := run_lookup_at kStr (HBr.out.mp.below kStr (KeptW.bel hy)) Try.underlying87 (zStr y) xk true
                              rw [Hmg.out] at f0
                              have f1 : (Instr.lookup 87 (.map (some mb)) (.string xk) true).run Try.prog y = .ok (.tuple #[zv, .bool bb]) y := by
                                have f2 : (Instr.lookup 87 (.map (some mb)) (.string xk) true).run Try.prog y = _ := f0
                                rw [f2, ← Hzv.out, ← Hbb.out]
                                cases lk <;> rfl
                              clear f0
                              go_simp
                            clear hK K
                            iterate 5 (refine RegK.can_reads ?_; intro K hK; go_simp; (first | (refine ⟨_, fun _ _ => rfl, hK _ ?_⟩) | (refine hK _ ?_)); clear hK K)
                            refine RegK.can_calm ?_
                            have Hbr2 := Lib.hid (Hbr.out.trans ((KeptW.bel (KeptW.drew wr)).mono Hbr.out.size))
                            have HU2 := Lib.hid (HU.out.below (KeptW.bel (KeptW.drew wr)))
                            have f0 := Hc.out wr.drew (KeptW.bel (KeptW.drew wr))
                            generalize wr.drew = w5 at *
                            cases lk with
                            | some v =>
                              obtain rfl : bb = true := by rw [← Hbb.out]; rfl
                              go_wp2_with fail
                              go_roundw
                              case rel => exact ⟨j + 1, U3, hi1, rfl, by rw [HQ.out], HU2.out.mono (by omega), HR.out.skip (by rw [Hxk.out, Hlk.out]; rfl), Hbr2.out⟩
                              case measure => simp [intOf]; omega
                            | none =>
                              obtain rfl : bb = false := by rw [← Hbb.out]; rfl
                              have hdel := del_one xk U3 (400 + j) w5 HU2.out (by omega)
                              rw [HQ.out] at hdel
                              have Hdel := Lib.hid hdel; clear hdel
                              go_wp2_with ((with_reducible refine Hdel.out.mono ?_); clear Hdel; rintro e w6 ⟨X, rfl, hx⟩; have Hx := Lib.hid hx; clear hx)
                              go_roundw
                              case rel => exact ⟨j + 1, X, hi1, rfl, rfl, Hx.out.ok, Rest.del HR.out (by rw [Hxk.out, Hlk.out]) (by rw [Hxk.out]; exact Hx.out), Hbr2.out.trans (Hx.out.bel.mono Hbr2.out.size)⟩
                              case measure => simp [intOf]; omega
                          · have hlt' : ¬ (j : Int) < (nb : Int) := by omega
                            obtain rfl : nb = j := by omega
                            have hlk : ∀ k, T.sh.look k = U3.sh.look k := by
                              rw [HS.out]
                              exact HR.out.end_ (by rw [HBn.out]; exact Nat.le_refl _)
                            have hkv : T.sh.kv = U3.sh.kv := kv_ext HTh.out.asc HU.out.asc hlk
                            have hsh : T.sh = U3.sh := shape_uniq HTh.out.heap HU.out.heap hkv
                            have hnil : diffL T.kvs U3.kvs = [] := diff_nothing HTh.out.asc HU.out.asc hlk
                            have Hsh := Lib.hid hsh; clear hsh hkv hlk
                            have Hnil := Lib.hid hnil; clear hnil
                            have HTi := Lib.hid (HTh.out.below Hbr.out)
                            have HUi := Lib.hid (HU.out.mono (show 400 + nb ≤ 500 by omega))
                            have HK1i := Lib.hid ((Hbr.out.block E1 (Array.getElem?_eq_some_iff.1 HK1h.out).1).trans HK1h.out)
                            have HK2i := Lib.hid ((Hbr.out.block E2 (Array.getElem?_eq_some_iff.1 HK2h.out).1).trans HK2h.out)
                            have HK3i := Lib.hid ((Hbr.out.block E3 (Array.getElem?_eq_some_iff.1 HK3.out).1).trans HK3.out)
                            clear HBh HTh HU HR Hbr HK1h HK2h HK3 hlt hi
                            generalize wr = wI at *
                            have Hdf := Lib.hid (callsIn_wide.1 (diff_in 1 P Q3 wI))
                            have hseq := dseq_some
                            go_wp2_with ((with_reducible refine Hdf.out.mono ?_); rintro e w' ⟨rfl, rfl⟩)
                            clear hseq Hdf hlt'
                            have hu1 : Below wI.heap.size wI ((wI.alloc (.cells #[.pointer P] 58)).alloc (.cells #[.pointer Q3] 58)) := ((Below.refl _ _).alloc (Nat.le_refl _) _).alloc (by simp) _
                            have hsz : ((wI.alloc (.cells #[.pointer P] 58)).alloc (.cells #[.pointer Q3] 58)).heap.size = wI.heap.size + 2 := by simp
                            have hba := (BoxAt.new wI (.pointer P) 58).below ((Below.refl _ _).alloc (Nat.le_refl _) (.cells #[.pointer Q3] 58))
                            have hbb := BoxAt.new (wI.alloc (.cells #[.pointer P] 58)) (.pointer Q3) 58
                            rw [World.size_alloc] at hbb
                            generalize (wI.alloc (.cells #[.pointer P] 58)).alloc (.cells #[.pointer Q3] 58) = zd at *
                            have hloA : T.Lo wI.heap.size := HTi.out.at_.lo
                            have hloB : U3.Lo wI.heap.size := HUi.out.at_.lo
                            have hstops := diff_stops (mm - 1) wI.heap.size (wI.heap.size + 1) wI.heap.size (wI.heap.size + 2) T U3 zd (by omega) (by omega) (by omega) (by omega) (by rw [HP.out]; exact hba.cell) (by rw [HQ.out]; exact hbb.cell) (HTi.out.at_.below hu1) (HUi.out.at_.below hu1) hloA.outOf hloB.outOf HTi.out.asc HUi.out.asc (by have h1 := HTi.out.cnt; have h2 := HUi.out.cnt; omega)
                            rw [Hnil.out] at hstops
                            have Hstops := Lib.hid hstops; clear hstops
                            have Hsz := Lib.hid hsz; clear hsz
                            have Hxz := Lib.hid hu1; clear hu1
                            clear hloA hloB hba hbb
                            refine (wpIn_wide (n := mm)).1 ?_
                            refine Range.wpIn_range (F := Fence.wide) rfl (by omega) (gf := 66) (lb := #[.pointer (some ⟨wI.heap.size, 0, none⟩), .pointer (some ⟨wI.heap.size + 1, 0, none⟩)]) rfl trivial (enters_of Try.func66 (by kernel_rfl) rfl)
                              Hstops.out (fun h k => h.trans k) (keepC_b (by have := Hsz.out; omega)) (Below.refl _ _) (fun _ => rfl)
                              (fun _ W => Below zd.heap.size zd W) (fun _ _ _ => False) (fun s W W' row hs hg hr => below_own (Nat.le_refl _) hs hg hr) (fun _ _ _ _ _ h _ _ => h) (Below.refl _ _) ?round4 ?done4 ?stop4
                            case round4 =>
                              rintro l pre x V2 hi hlen
                              exact absurd hlen (by simp)
                            case stop4 =>
                              rintro E c pre V2 hE hpre h _
                              exact h.elim
                            case done4 =>
                              rintro E4 ys4 W4 hE4 _ hI hK4
                              clear Hstops
                              have hW := Hxz.out.trans (hI.mono Hxz.out.size)
                              have HBj := Lib.hid (HBr.out.below hW)
                              have HTj := Lib.hid (HTi.out.below hW)
                              have HUj := Lib.hid (HUi.out.below hW)
                              have HK1j := Lib.hid ((hW.block E1 (Array.getElem?_eq_some_iff.1 HK1i.out).1).trans HK1i.out)
                              have HK2j := Lib.hid ((hW.block E2 (Array.getElem?_eq_some_iff.1 HK2i.out).1).trans HK2i.out)
                              have HK3j := Lib.hid ((hW.block E3 (Array.getElem?_eq_some_iff.1 HK3i.out).1).trans HK3i.out)
                              have HK4 := Lib.hid hK4; clear hK4
                              have HO4 := Lib.hid (show E3 < E4 from Nat.lt_of_lt_of_le (Array.getElem?_eq_some_iff.1 HK3i.out).1 (Nat.le_trans Hxz.out.size hE4))
                              clear HBr HTi HUi HK1i HK2i HK3i hW hI hE4 Hxz Hsz Hnil
                              have hmlen : m.length = T.cnt := by rw [HM.out.len, ← HS.out, ← sh_cnt]
                              have hul : U3.cnt = T.cnt := by rw [sh_cnt, ← Hsh.out, ← sh_cnt]
                              have hud : U3.dep = T.dep := by rw [sh_dep, ← Hsh.out, ← sh_dep]
                              obtain ⟨N, hN⟩ : ∃ N, T.cnt = N := ⟨_, rfl⟩
                              obtain ⟨D, hD⟩ : ∃ D, T.dep = D := ⟨_, rfl⟩
                              rw [hN] at hmlen hul
                              rw [hD] at hud
                              have Hml := Lib.hid hmlen; clear hmlen
                              have HN := Lib.hid (And.intro hN hul); clear hN hul
                              have HD := Lib.hid (And.intro hD hud); clear hD hud
                              go_upto_region 64 with fail
                              refine (wpIn_wide (n := 1)).1 ?_
                              refine RegK.wpIn_region_calm (F := Fence.wide) (KeptW W4) [(0, 0), (2, 0), (1, 1), (3, 0), (4, 0), (5, 0), (6, 0), (8, 0), (7, 1), (9, 0), (10, 0), (11, 0), (12, 0), (13, 0), (15, 0), (14, 1), (16, 1), (17, 0), (18, 0), (19, 0), (20, 1), (21, 0), (22, 3)] (by kernel_rfl) (by kernel_rfl) (by kernel_rfl) (KeptW.drew W4) ?_
                              dsimp only [RegK.pick, List.getElem?_cons_zero, List.getElem?_cons_succ]
                              change RegK.Can _ _ _ _ _ _ _ _ W4.drew
                              have hkd : KeptW W4 W4.drew := KeptW.drew W4
                              iterate 1 (refine RegK.can_reads ?_; intro K hK; go_simp; (first | (refine ⟨_, fun _ _ => rfl, hK _ ?_⟩) | (refine hK _ ?_)); clear hK K)
                              refine RegK.can_reads ?_
                              intro K hK
                              go_simp
                              refine ⟨.map (some mb), fun y hy => ?_, hK _ ?_⟩
                              · have f0 := (HBj.out.mv.below (KeptW.bel hy)).cell
                                go_simp
                              clear hK K
                              refine RegK.can_narrows (fun _ => trivial) ?_
                              intro K K0 hK hK0
                              go_simp
                              refine ⟨trivial, ?_⟩
                              have hc := len_any T W4.drew (HTj.out.at_.below (KeptW.bel hkd))
                              rw [HP.out, HN.out.1] at hc
                              refine (callsIn_wide.2 hc).mono ?_
                              clear hc
                              rintro e w9 ⟨rfl, rfl⟩
                              refine hK (KeptW W4) _ _ (fun y h => h) hkd ?_
                              clear hK K K0 hK0
                              refine RegK.can_reads ?_
                              intro K hK
                              go_simp
                              refine ⟨.int .i64 (N : Int), fun y hy => ?_, hK _ ?_⟩
                              · have f0 := run_len_at kStr (HBj.out.mp.below kStr (KeptW.bel hy)) Try.underlying87 3
                                rw [Hml.out] at f0
                                go_simp
                              clear hK K
                              iterate 3 (refine RegK.can_reads ?_; intro K hK; go_simp; (first | (refine ⟨_, fun _ _ => rfl, hK _ ?_⟩) | (refine hK _ ?_)); clear hK K)
                              refine RegK.can_reads ?_
                              intro K hK
                              go_simp
                              refine ⟨.map (some mb), fun y hy => ?_, hK _ ?_⟩
                              · have f0 := (HBj.out.mv.below (KeptW.bel hy)).cell
                                go_simp
                              clear hK K
                              refine RegK.can_narrows (fun _ => trivial) ?_
                              intro K K0 hK hK0
                              go_simp
                              refine ⟨trivial, ?_⟩
                              have hc := len_any U3 W4.drew (HUj.out.at_.below (KeptW.bel hkd))
                              rw [HQ.out, HN.out.2] at hc
                              refine (callsIn_wide.2 hc).mono ?_
                              clear hc
                              rintro e w9 ⟨rfl, rfl⟩
                              refine hK (KeptW W4) _ _ (fun y h => h) hkd ?_
                              clear hK K K0 hK0
                              refine RegK.can_reads ?_
                              intro K hK
                              go_simp
                              refine ⟨.int .i64 (N : Int), fun y hy => ?_, hK _ ?_⟩
                              · have f0 := run_len_at kStr (HBj.out.mp.below kStr (KeptW.bel hy)) Try.underlying87 3
                                rw [Hml.out] at f0
                                go_simp
                              clear hK K
                              iterate 5 (refine RegK.can_reads ?_; intro K hK; go_simp; (first | (refine ⟨_, fun _ _ => rfl, hK _ ?_⟩) | (refine hK _ ?_)); clear hK K)
                              refine RegK.can_narrows (fun _ => trivial) ?_
                              intro K K0 hK hK0
                              go_simp
                              refine ⟨trivial, ?_⟩
                              have hc := depth_any T W4.drew (HTj.out.at_.below (KeptW.bel hkd))
                              rw [HP.out, HD.out.1] at hc
                              refine (callsIn_wide.2 hc).mono ?_
                              clear hc
                              rintro e w9 ⟨rfl, rfl⟩
                              refine hK (KeptW W4) _ _ (fun y h => h) hkd ?_
                              clear hK K K0 hK0
                              refine RegK.can_narrows (fun _ => trivial) ?_
                              intro K K0 hK hK0
                              go_simp
                              refine ⟨trivial, ?_⟩
                              have hc := depth_any U3 W4.drew (HUj.out.at_.below (KeptW.bel hkd))
                              rw [HQ.out, HD.out.2] at hc
                              refine (callsIn_wide.2 hc).mono ?_
                              clear hc
                              rintro e w9 ⟨rfl, rfl⟩
                              refine hK (KeptW W4) _ _ (fun y h => h) hkd ?_
                              clear hK K K0 hK0
                              iterate 3 (refine RegK.can_reads ?_; intro K hK; go_simp; (first | (refine ⟨_, fun _ _ => rfl, hK _ ?_⟩) | (refine hK _ ?_)); clear hK K)
                              refine RegK.can_narrows (fun _ => trivial) ?_
                              intro K K0 hK hK0
                              go_simp
                              refine ⟨trivial, ?_⟩
                              have hc := trWakes_any W4.drew
                              skip
                              refine (callsIn_wide.2 hc).mono ?_
                              clear hc
                              rintro e wf ⟨rfl, hb⟩
                              have hwf : KeptW W4 wf := KeptW.mono hkd hb
                              refine hK (KeptW W4) _ _ (fun y h => h) hwf ?_
                              clear hK K K0 hK0
                              iterate 1 (refine RegK.can_reads ?_; intro K hK; go_simp; (first | (refine ⟨_, fun _ _ => rfl, hK _ ?_⟩) | (refine hK _ ?_)); clear hK K)
                              have z0 := (HBj.out.below (KeptW.bel hwf)).br.cell
                              have z1 := (HBj.out.below (KeptW.bel hwf)).br.frozen
                              refine RegK.can_frees (fun _ => trivial) ?_
                              intro K K0 hK hK0
                              go_simp
                              refine hK (fun _ => True) _ _ trivial ?_
                              clear hK K hK0 K0
                              refine RegK.can_calm ?_
                              clear z0 z1
                              have l7 := HBj.out.below (KeptW.bel hwf)
                              have hd : ∀ E, W4.heap[E]? = some (.deferred (some [])) → w.heap.size ≠ E → (wf.setCell ⟨w.heap.size, 0, none⟩ (.bool true)).heap[E]? = some (.deferred (some [])) := fun E h hne => (Below.heap_setCell _ _ _ _ (by exact Ne.symm hne)).trans (((KeptW.bel hwf).block E (Array.getElem?_eq_some_iff.1 h).1).trans h)
                              have hx1 := hd E1 HK1j.out (by have := HO1.out; omega)
                              have hx2 := hd E2 HK2j.out (by have := HO1.out; have := HO2.out; omega)
                              have hx3 := hd E3 HK3j.out (by have := HO1.out; have := HO2.out; have := HO3.out; omega)
                              have hx4 := hd E4 HK4.out (by have := HO1.out; have := HO2.out; have := HO3.out; have := HO4.out; omega)
                              have hbx : BoxAt (wf.setCell ⟨w.heap.size, 0, none⟩ (.bool true)) w.heap.size (.bool true) 4 := l7.br.set
                              have hbl : Below w.heap.size w (wf.setCell ⟨w.heap.size, 0, none⟩ (.bool true)) := below_set l7.bel (Nat.le_refl _)
                              clear hd l7
                              go_wp2_with fail
                              generalize wf.setCell ⟨w.heap.size, 0, none⟩ (.bool true) = W6 at *
                              have o1 := HO1.out
                              have o2 := HO2.out
                              have o3 := HO3.out
                              have o4 := HO4.out
                              have e1 : (W6.putObj E4 (.deferred none)).heap[E3]? = some (.deferred (some [])) := (World.putObj_heap_other (by omega)).trans hx3
                              have e2 : ((W6.putObj E4 (.deferred none)).putObj E3 (.deferred none)).heap[E2]? = some (.deferred (some [])) := (World.putObj_heap_other (by omega)).trans ((World.putObj_heap_other (by omega)).trans hx2)
                              have e3 : (((W6.putObj E4 (.deferred none)).putObj E3 (.deferred none)).putObj E2 (.deferred none)).heap[E1]? = some (.deferred (some [])) := (World.putObj_heap_other (by omega)).trans ((World.putObj_heap_other (by omega)).trans ((World.putObj_heap_other (by omega)).trans hx1))
                              have b1 : BoxAt (W6.putObj E4 (.deferred none)) w.heap.size (.bool true) 4 := (World.putObj_heap_other (by omega)).trans hbx
                              have b2 : BoxAt ((W6.putObj E4 (.deferred none)).putObj E3 (.deferred none)) w.heap.size (.bool true) 4 := (World.putObj_heap_other (by omega)).trans b1
                              have b3 : BoxAt (((W6.putObj E4 (.deferred none)).putObj E3 (.deferred none)).putObj E2 (.deferred none)) w.heap.size (.bool true) 4 := (World.putObj_heap_other (by omega)).trans b2
                              have b4 : BoxAt ((((W6.putObj E4 (.deferred none)).putObj E3 (.deferred none)).putObj E2 (.deferred none)).putObj E1 (.deferred none)) w.heap.size (.bool true) 4 := (World.putObj_heap_other (by omega)).trans b3
                              have l1 : Below w.heap.size w (W6.putObj E4 (.deferred none)) := hbl.trans (belowK_b (w := w) (Nat.le_refl _) W6 E4 _ _ (by omega) hx4 rfl rfl)
                              have l2 : Below w.heap.size w ((W6.putObj E4 (.deferred none)).putObj E3 (.deferred none)) := l1.trans (belowK_b (w := w) (Nat.le_refl _) _ E3 _ _ (by omega) e1 rfl rfl)
                              have l3 : Below w.heap.size w (((W6.putObj E4 (.deferred none)).putObj E3 (.deferred none)).putObj E2 (.deferred none)) := l2.trans (belowK_b (w := w) (Nat.le_refl _) _ E2 _ _ (by omega) e2 rfl rfl)
                              have l4 : Below w.heap.size w ((((W6.putObj E4 (.deferred none)).putObj E3 (.deferred none)).putObj E2 (.deferred none)).putObj E1 (.deferred none)) := l3.trans (belowK_b (w := w) (Nat.le_refl _) _ E1 _ _ (by omega) e3 rfl rfl)
                              have c4 := b4.cell
                              refine ⟨by simp, .inl ⟨_, _, rfl, run_takeDeferred hx4, ?_⟩⟩
                              refine ⟨by simp, .inl ⟨_, _, rfl, run_takeDeferred e1, ?_⟩⟩
                              refine ⟨by simp, .inl ⟨_, _, rfl, run_takeDeferred e2, ?_⟩⟩
                              refine ⟨by simp, .inl ⟨_, _, rfl, run_takeDeferred e3, ?_⟩⟩
                              refine ⟨.bool true, ?_, rfl, l4⟩
                              simp [results, Try.results10, go_sem, c4]
theorem treeOne_law (a0 : Option Addr) (n cap0 : Nat) (L : Prs) (a1 : Option Addr) (no cap1 : Nat) (O : List Int) (a2 : Option Addr) (nb cap2 : Nat) (B : List ByteArray) {w : World}
    (h0 : PairsAt w a0 n L) (h1 : IntsAt w a1 no O) (h2 : TxtsAt w a2 nb B) (_ : World) :
    Calls Try.prog 10 #[.slice a0 n cap0, .slice a1 no cap1, .slice a2 nb cap2] w fun e w' => e = .returned (.bool true) ∧ Below w.heap.size w w' :=
  callsIn_wide.1 (treeOne_in a0 n cap0 L a1 no cap1 O a2 nb cap2 B w h0 h1 h2 3 (Nat.le_refl _))
end Go.Proofs.Ytimhpncdlaildaa.One
