/- Deltas: putKeys. Condition: few enough keys, which may be told. -/
import Derived.Test.YtbckjgageofldaaGreatZLearnNil31
import Derived.Test.YtbckjgageofldaaGreatZLearnNil22
import Derived.Test.YtbckjgageofldaaGreatZLearnNil24
namespace Go.Proofs.YtbckjgageofldaaGreat
open Go.RowKit Go.Shelf
attribute [local go_sem] Oper.semAt_some
def chgB (c : Chg) : List UInt8 := strL c.key ++ if c.has then numL 1 ++ strL c.new else numL 0
def chgsB : List Chg → List UInt8
 | [] => []
 | c :: r => chgB c ++ chgsB r
theorem chgsB_app : ∀ (a b : List Chg), chgsB (a ++ b) = chgsB a ++ chgsB b
 | [], _ => rfl
 | c :: r, b => by
  show chgB c ++ chgsB (r ++ b) = _
  rw [chgsB_app r b, ← List.append_assoc]
  rfl
def keysDB (d : List Chg) : List UInt8 := numL d.length ++ chgsB d
def ChgOk (c : Chg) : Prop := c.key.size ≤ 4096 ∧ c.new.size ≤ 4096
theorem chgB_len {c : Chg} (h : ChgOk c) : (chgB c).length ≤ 8300 := by
 have h1 := strL_len c.key
 have h2 := strL_len c.new
 have h3 := (numL_len 1).1
 have h4 := (numL_len 0).1
 obtain ⟨h5, h6⟩ := h
 unfold chgB
 rw [List.length_append]
 split
 ·
  rw [List.length_append]; omega
 ·
  omega
theorem chgsB_len : ∀ (l : List Chg), (∀ c ∈ l, ChgOk c) → (chgsB l).length ≤ 8300 * l.length
 | [], _ => by simp [chgsB]
 | c :: r, h => by
  have h1 := chgB_len (h c (by simp))
  have h2 := chgsB_len r (fun x hx => h x (by simp [hx]))
  show (chgB c ++ chgsB r).length ≤ _
  rw [List.length_append, List.length_cons]
  omega
structure PkI (w0 : World) (pre : List Chg) (W : World) : Prop where
 n : BoxAt W w0.heap.size (.int .u64 (pre.length : Int)) 22
 b : ∃ v, BoxAt W (w0.heap.size + 1) v 44 ∧ OwnB W w0.heap.size 5 v (chgsB pre)
 bel : Below w0.heap.size w0 W
theorem PkI.own {w0 : World} {B0 : Nat} (hB : w0.heap.size ≤ B0) {α : Type} (f : α → List Chg) : OwnFrom B0 (fun (s : α) W => PkI w0 (f s) W) := fun s W W' row hs hg hr => by
 obtain ⟨v, h1, h2⟩ := hs.b
 exact ⟨BoxAt.own (f := fun s : α => .int .u64 ((f s).length : Int)) s W W' row hs.n hg hr, ⟨v, BoxAt.own (f := fun _ => v) s W W' row h1 hg hr, h2.own hg (fun r e => (hr r e).2)⟩, below_own hB hs.bel hg hr⟩
theorem PkI.below {w0 W W' : World} {pre : List Chg} (h : PkI w0 pre W) (hb : Below W.heap.size W W') : PkI w0 pre W' := by
 obtain ⟨v, h1, h2⟩ := h.b
 exact ⟨h.n.below hb, ⟨v, h1.below hb, h2.below hb⟩, h.bel.trans (hb.mono h.bel.size)⟩
theorem OwnB.turned {B q : Nat} {W W' : World} {base : Nat} {t : TypeId} {v : Value} {l : List UInt8} (hT : Range.Turned B q W W') (h : OwnB W base t v l) : OwnB W' base t v l := by
 unfold OwnB at *
 obtain ⟨h1, h2⟩ := h
 refine ⟨h1, ?_⟩
 rcases h2 with h2 | ⟨g, cap, cur, e, h3, hgc, h4⟩
 ·
  exact .inl h2
 ·
  exact .inr ⟨g, cap, cur, e, h3, turned_cells hT hgc, h4⟩
theorem OwnB.setOther {w : World} {base g i : Nat} {t t' : TypeId} {v x y : Value} {l : List UInt8} (h : OwnB w base t v l) (hb : BoxAt w g y t') (ht : t' ≠ t) : OwnB (w.setCell ⟨g, i, none⟩ x) base t v l := by
 unfold OwnB at *
 obtain ⟨h1, h2⟩ := h
 refine ⟨h1, ?_⟩
 rcases h2 with h2 | ⟨q, cap, cur, e, h3, hq, h4⟩
 ·
  exact .inl h2
 ·
  refine .inr ⟨q, cap, cur, e, h3, (Below.heap_setCell _ _ _ _ (fun e => ?_)).trans hq, h4⟩
  have e' : q = g := e
  unfold BoxAt at hb
  rw [← e', hq] at hb
  cases hb
  exact ht rfl
structure KK (B n0 Bl : Nat) (V W : World) : Prop where
 f : KeepsFrom B V W
 c : KeepC n0 Bl V W
 s : V.heap.size ≤ W.heap.size
theorem KK.refl (B n0 Bl : Nat) (V : World) : KK B n0 Bl V V := ⟨KeepsFrom.refl _ _, KeepC.refl _ _ _, Nat.le_refl _⟩
theorem KK.below {B n0 Bl : Nat} {V W W' : World} (h : KK B n0 Bl V W) (hb : Below W.heap.size W W') (hn : n0 ≤ W.heap.size) : KK B n0 Bl V W' := ⟨h.f.trans (keepsFrom_below hb), h.c.trans (KeepC.of_below hb hn), Nat.le_trans h.s hb.size⟩
theorem KK.set {B n0 Bl : Nat} {V W : World} (h : KK B n0 Bl V W) {g i : Nat} {x : Value} (h1 : n0 ≤ g) (h2 : g < Bl) : KK B n0 Bl V (W.setCell ⟨g, i, none⟩ x) :=
 ⟨keepsFrom_set h.f, h.c.trans ⟨below_setV (Below.refl _ _) h1, fun r cs t f hr e => (Below.heap_setCell _ _ _ _ (by show r ≠ g; omega)).trans e⟩, by simpa [World.setCell] using h.s⟩
theorem pk_start (w : World) : PkI w [] ((w.alloc (.cells #[.int .u64 0] 22)).alloc (.cells #[.slice none 0 0] 44)) := by
 have b1 := (Below.refl w.heap.size w).alloc (Nat.le_refl _) (.cells #[.int .u64 0] 22)
 have b2 := (Below.refl _ (w.alloc (.cells #[.int .u64 0] 22))).alloc (Nat.le_refl _) (.cells #[.slice none 0 0] 44)
 have x2 := BoxAt.new (w.alloc (.cells #[.int .u64 0] 22)) (.slice none 0 0) 44
 rw [World.size_alloc] at x2
 exact ⟨(BoxAt.new w (.int .u64 0) 22).below b2, ⟨_, x2, OwnB.nil _ _ _⟩, b1.trans (b2.mono b1.size)⟩
theorem usucc {n : Nat} (h : n ≤ 9223372036854775806) : IntKind.u64.wrap ((n : Int) + 1) = ((n + 1 : Nat) : Int) := by rw [IntKind.wrap_u64]; omega
set_option maxRecDepth 100000 in
set_option maxHeartbeats 16000000 in
theorem putKeys_in (A B : Tr) (v : Value) (l : List UInt8) (hl : l.length ≤ 1000000) (w : World) (h : ReadB w v l) (hA : TreeAt w A) (hB : TreeAt w B) (haA : Asc A.sh.kv) (haB : Asc B.sh.kv) (hcA : A.cnt ≤ 1000000) (hcB : B.cnt ≤ 1000000) (hG : ∀ c ∈ diffL A.kvs B.kvs, ChgOk c) (mm : Nat) (hmm : 3 ≤ mm) :
    CallsIn Fence.wide mm Tryz.prog 139 #[v, .pointer A.ptr, .pointer B.ptr] w fun e w' => ∃ v', e = .returned v' ∧ OwnB w' w.heap.size 5 v' (l ++ keysDB (diffL A.kvs B.kvs)) ∧ Below w.heap.size w w' := by
  obtain ⟨i0, hi0, hz0, hs0, hb0⟩ := info_parts info8
  obtain ⟨a, n, c, rfl⟩ := h.slice
  have hloA := hA.lo
  have hloB := hB.lo
  have hI := pk_start w
  have hdif := fun (P Q : Option Addr) (y : World) => callsIn_wide.1 (diff_in 1 P Q y)
  have Hdif := Lib.hid hdif; clear hdif
  obtain ⟨PA, hPA⟩ : ∃ P, A.ptr = P := ⟨_, rfl⟩
  obtain ⟨PB, hPB⟩ : ∃ P, B.ptr = P := ⟨_, rfl⟩
  rw [hPA, hPB]
  have HPA := Lib.hid hPA; clear hPA
  have HPB := Lib.hid hPB; clear hPB
  have HR := Lib.hid h; clear h
  obtain ⟨D, hD⟩ : ∃ D, diffL A.kvs B.kvs = D := ⟨_, rfl⟩
  rw [hD]
  have HD := Lib.hid hD; clear hD
  refine callsIn_of_wp_marks Tryz.func139 rfl trivial ?_ rfl
  simp only [Tryz.ntmps139, List.size_toArray, List.length_cons, List.length_nil, Nat.reduceAdd, Nat.reduceSub, Array.replicate_succ, Array.replicate_zero, List.push_toArray, List.append_toArray, List.nil_append, List.cons_append]
  refine wpIn_wide.2 ?_
  go_upto_region 3 with fail
  change Code.wp _ _ _ _ ((w.alloc (.cells #[.int .u64 0] 22)).alloc (.cells #[.slice none 0 0] 44))
  have hs2 : ((w.alloc (.cells #[.int .u64 0] 22)).alloc (.cells #[.slice none 0 0] 44)).heap.size = w.heap.size + 2 := by simp
  generalize (w.alloc (.cells #[.int .u64 0] 22)).alloc (.cells #[.slice none 0 0] 44) = w2 at *
  have HI := Lib.hid hI; clear hI
  have Hlo := Lib.hid (And.intro hloA hloB); clear hloA hloB
  go_wp2_with ((with_reducible refine (Hdif.out _ _ _).mono ?_); rintro e w' ⟨rfl, rfl⟩)
  have hu9 : Below w2.heap.size w2 ((w2.alloc (.cells #[.pointer PA] 32)).alloc (.cells #[.pointer PB] 32)) := ((Below.refl _ _).alloc (Nat.le_refl _) _).alloc (by simp) _
  have hs9 : ((w2.alloc (.cells #[.pointer PA] 32)).alloc (.cells #[.pointer PB] 32)).heap.size = w.heap.size + 4 := by simp [hs2]
  have hba := (BoxAt.new w2 (.pointer PA) 32).below ((Below.refl _ _).alloc (Nat.le_refl _) (.cells #[.pointer PB] 32))
  have hbb := BoxAt.new (w2.alloc (.cells #[.pointer PA] 32)) (.pointer PB) 32
  rw [World.size_alloc, hs2] at hbb
  rw [hs2] at hba
  generalize (w2.alloc (.cells #[.pointer PA] 32)).alloc (.cells #[.pointer PB] 32) = w9 at *
  have HI9 := Lib.hid (HI.out.below hu9); clear HI
  clear hu9 hs2 Hdif
  have hDl : D.length ≤ 2000000 := by
    have h1 := diff_len _ (Nat.le_refl (A.kvs.length + B.kvs.length))
    have h2 : A.kvs.length = A.cnt := by rw [sh_cnt, cnt_kv]; rfl
    have h3 : B.kvs.length = B.cnt := by rw [sh_cnt, cnt_kv]; rfl
    rw [HD.out] at h1
    omega
  have hstops := diff_stopsG ChgOk (mm - 1) (w.heap.size + 2) (w.heap.size + 2 + 1) w.heap.size (w.heap.size + 4) A B w9 (by omega) (by omega) (by omega) (by omega) (by rw [HPA.out]; exact hba.cell) (by rw [HPB.out]; exact hbb.cell) (hA.below HI9.out.bel) (hB.below HI9.out.bel) Hlo.out.1.outOf Hlo.out.2.outOf haA haB (by omega) hG
  rw [HD.out] at hstops
  clear hba hbb hA hB haA haB hG HD
  have Hstops := Lib.hid hstops; clear hstops
  have Hs9 := Lib.hid hs9; clear hs9
  refine (wpIn_wide (n := mm)).1 ?_
  refine Range.wpIn_range (F := Fence.wide) rfl (by omega) (gf := 187) (lb := #[.pointer (some ⟨w.heap.size + 2, 0, none⟩), .pointer (some ⟨w.heap.size + 2 + 1, 0, none⟩)]) rfl trivial (enters_of Tryz.func187 (by kernel_rfl) rfl)
    Hstops.out (fun h k => h.trans k) (keepC_b (by have := Hs9.out; omega)) (Below.refl _ _) (fun _ => rfl)
    (fun pre W => PkI w (pre.map (·.val)) W) (fun _ _ _ => False) (PkI.own (by have := Hs9.out; omega) _) (fun _ _ _ _ _ h _ _ => h.elim) HI9.out ?round ?done ?stop
  case stop =>
    rintro E c pre V hE hpre h _
    exact h.elim
  case round =>
    rintro q pre ⟨⟨xk, xo, xn, xa, xb⟩, hx⟩ V hi hlen
    clear HI9 Hstops
    have hx' : xk.size ≤ 4096 ∧ xn.size ≤ 4096 := hx
    have hlp := chgsB_len (pre.map (·.val)) (fun c hc => by obtain ⟨q, _, rfl⟩ := List.mem_map.1 hc; exact q.property)
    rw [List.length_map] at hlp
    obtain ⟨p, hp⟩ : ∃ p, pre.map (·.val) = p := ⟨_, rfl⟩
    have hpl : pre.length = p.length := by rw [← hp]; simp
    have hgl : (pre ++ [(⟨⟨xk, xo, xn, xa, xb⟩, hx⟩ : {c : Chg // ChgOk c})]).map (·.val) = p ++ [⟨xk, xo, xn, xa, xb⟩] := by rw [List.map_append, hp]; rfl
    rw [hp] at hi hlp
    rw [hpl] at hlen hlp
    have Hp := Lib.hid (And.intro hgl hpl); clear hp hgl hpl
    have Hi := Lib.hid hi; clear hi
    dsimp only [chgV, chgCells]
    gi_wp2
    have hbW : Below V.heap.size V (V.alloc (.cells (chgCells xo xn xa xb) 271)) := (Below.refl _ _).alloc (Nat.le_refl _) _
    have hnW : ChgAt (V.alloc (.cells (chgCells xo xn xa xb) 271)) V.heap.size xo xn xa xb := heap_alloc_new V _
    have hiV := Hi.out.below hbW
    have hqV := Hi.out.bel.size
    have hgV : w.heap.size + 1 < V.heap.size := by obtain ⟨v, h1, _⟩ := Hi.out.b; exact h1.lt
    refine ⟨keepsFrom_below hbW, KeepC.of_below hbW (by omega), fun V2 hT => ?_⟩
    have hT' : Range.Turned w9.heap.size q (V.alloc (.cells (chgCells xo xn xa xb) 271)) V2 := hT
    have hi2 : PkI w p V2 := by
      obtain ⟨v, h1, h2⟩ := hiV.b
      exact ⟨turned_cells hT' hiV.n, ⟨v, turned_cells hT' h1, h2.turned hT'⟩, hiV.bel.trans (turned_below (by have := Hs9.out; omega) hT')⟩
    have hn2 : ChgAt V2 V.heap.size xo xn xa xb := turned_cells hT' hnW
    have hgg : V.heap.size < V2.heap.size := (Array.getElem?_eq_some_iff.1 hn2).1
    generalize V.heap.size = g9 at *
    clear hT hT' hbW hnW Hi hiV hqV
    obtain ⟨u, hbx, hown⟩ := hi2.b
    obtain ⟨ua, un, uc, rfl⟩ := hown.read.slice
    have f0 := hi2.n.cell
    have f1 := hi2.n.frozen
    have hnx := hi2.n
    have hbel2 := hi2.bel
    clear hi2
    have hsucc := usucc (n := p.length) (by omega)
    have hK2 := KK.refl w9.heap.size w.heap.size (w.heap.size + 4) V2
    have h94 : w.heap.size ≤ V2.heap.size := hbel2.size
    obtain ⟨m, hm⟩ : ∃ m, p.length = m := ⟨_, rfl⟩
    rw [hm] at f0 hsucc hlp hlen hnx
    have hN1 := hnx.set (v' := .int .u64 ((m : Int) + 1))
    have hB1 := hbx.other (B' := w.heap.size) (v' := .int .u64 ((m : Int) + 1)) (by omega)
    have hO1 : OwnB (V2.setCell ⟨w.heap.size, 0, none⟩ (.int .u64 ((m : Int) + 1))) w.heap.size 5 (.slice ua un uc) (chgsB p) := hown.setOther hnx (by decide)
    have hC1 := hn2.other (i := 0) (x := .int .u64 ((m : Int) + 1)) (show g9 ≠ w.heap.size by omega)
    have hb1 := below_setV (i := 0) (x := .int .u64 ((m : Int) + 1)) hbel2 (Nat.le_refl w.heap.size)
    have hK1 := hK2.set (g := w.heap.size) (i := 0) (x := .int .u64 ((m : Int) + 1)) (Nat.le_refl _) (by omega)
    have hz1 : (V2.setCell ⟨w.heap.size, 0, none⟩ (.int .u64 ((m : Int) + 1))).heap.size = V2.heap.size := by simp [World.setCell]
    have H1 := Lib.hid (And.intro hN1 (And.intro hB1 (And.intro hO1 (And.intro hC1 (And.intro hb1 hK1))))); clear hN1 hB1 hO1 hC1 hb1 hK1
    have Hz1 := Lib.hid (show w.heap.size ≤ (V2.setCell ⟨w.heap.size, 0, none⟩ (.int .u64 ((m : Int) + 1))).heap.size by rw [hz1]; exact h94); clear hz1 h94
    have Hm := Lib.hid hm; clear hm
    have f2 := hbx.cell
    have f3 := hbx.frozen
    have hkl := strL_len xk
    have hgn : ¬ g9 = w.heap.size + 1 := by omega
    have hgn2 : ¬ w.heap.size + 1 = g9 := by omega
    clear hown hn2 hnx hbel2 hbx hK2
    cases xb with
    | true =>
      gi_wp2_with (refine ⟨trivial, (fun h => (by cases h)), ?_⟩; generalize V2.setCell ⟨w.heap.size, 0, none⟩ (.int .u64 ((m : Int) + 1)) = W1 at *; refine (calls_round (str_any _ (chgsB p) xk (by omega) W1 H1.out.2.2.1.read)).mono ?_; rintro e y1 ⟨v1, rfl, ho1, hb1⟩; obtain ⟨a1, n1, c1, rfl⟩ := ho1.read.slice; have Ho1 := Lib.hid ho1; clear ho1; have Hb1 := Lib.hid hb1; clear hb1; have d0 := (H1.out.2.1.below Hb1.out).cell; have d1 := (H1.out.2.1.below Hb1.out).frozen; obtain ⟨q0, q1, q2, q3⟩ := (H1.out.2.2.2.1.below Hb1.out).cells; clear f0 f1 f2 f3)
      have hB2 := (H1.out.2.1.below Hb1.out).set (v' := .slice a1 n1 c1)
      have hN2 := (H1.out.1.below Hb1.out).other (B' := w.heap.size + 1) (v' := .slice a1 n1 c1) (by omega)
      have hC2 := (H1.out.2.2.2.1.below Hb1.out).other (i := 0) (x := .slice a1 n1 c1) hgn
      have hO2 : OwnB (y1.setCell ⟨w.heap.size + 1, 0, none⟩ (.slice a1 n1 c1)) w.heap.size 5 (.slice a1 n1 c1) (chgsB p ++ strL xk) := (Ho1.out.mono Hz1.out).setOther (H1.out.2.1.below Hb1.out) (by decide)
      have hb2 := below_setV (i := 0) (x := .slice a1 n1 c1) (H1.out.2.2.2.2.1.trans (Hb1.out.mono Hz1.out)) (show w.heap.size ≤ w.heap.size + 1 by omega)
      have hK3 := (H1.out.2.2.2.2.2.below Hb1.out Hz1.out).set (g := w.heap.size + 1) (i := 0) (x := .slice a1 n1 c1) (by omega) (by omega)
      have hz2 : w.heap.size ≤ (y1.setCell ⟨w.heap.size + 1, 0, none⟩ (.slice a1 n1 c1)).heap.size := by have h1 := Hz1.out; have h2 := Hb1.out.size; simp [World.setCell]; omega
      clear H1 Ho1 Hb1 Hz1 d0 d1 q0 q1 q2 q3
      have H2 := Lib.hid (And.intro hN2 (And.intro hB2 (And.intro hO2 (And.intro hC2 (And.intro hb2 hK3))))); clear hN2 hB2 hO2 hC2 hb2 hK3
      have Hz2 := Lib.hid hz2; clear hz2
      generalize y1.setCell ⟨w.heap.size + 1, 0, none⟩ (.slice a1 n1 c1) = W2 at *
      have hnl := strL_len xn
      have hn1l := (numL_len 1).1
      refine RegK.wpIn_region_calm (F := (Fence.wide.inRound q)) (KeptW W2) [(0, 0), (2, 0), (3, 0), (1, 1), (4, 1), (5, 3)] (by kernel_rfl) (by kernel_rfl) (by kernel_rfl) ⟨rfl, rfl, rfl, Nat.le_refl _, fun _ _ => rfl⟩ ?_
      dsimp only [RegK.pick, List.getElem?_cons_zero, List.getElem?_cons_succ]
      change RegK.Can _ _ _ _ _ _ _ _ W2.drew
      have hkd : KeptW W2 W2.drew := ⟨rfl, rfl, rfl, Nat.le_refl _, fun _ _ => rfl⟩
      generalize W2.drew = z1 at *
      refine RegK.can_reads ?_
      intro K hK
      go_simp
      refine ⟨.slice a1 n1 c1, fun y hy => ?_, hK _ ?_⟩
      · have k0 := (H2.out.2.1.below (KeptW.bel hy)).cell
        go_simp
      clear hK K
      refine RegK.can_reads ?_; intro K hK; go_simp; (first | refine ⟨_, fun _ _ => rfl, hK _ ?_⟩ | refine hK _ ?_); clear hK K
      refine RegK.can_reads ?_
      intro K hK
      go_simp
      refine ⟨.string xn, fun y hy => ?_, hK _ ?_⟩
      · obtain ⟨k0, k1, k2, k3⟩ := (H2.out.2.2.2.1.below (KeptW.bel hy)).cells
        go_simp
      clear hK K
      refine RegK.can_turns (fun _ => trivial) ?_
      intro K K0 hK hK0
      go_simp
      refine ⟨trivial, (fun h => (by cases h)), ?_⟩
      refine (calls_round (num_any (.slice a1 n1 c1) (chgsB p ++ strL xk) 1 (by decide) (by rw [List.length_append]; omega) z1 (H2.out.2.2.1.below (KeptW.bel hkd)).read)).mono ?_
      rintro e z2 ⟨v2, rfl, ho2, hb7⟩
      have z2k : KeptW W2 z2 := KeptW.mono hkd hb7
      refine hK _ _ z2k ?_
      clear hK K hK0 K0
      obtain ⟨a2, n2, c2, rfl⟩ := ho2.read.slice
      have Ho2 := Lib.hid ho2; clear ho2
      refine RegK.can_turns (fun _ => trivial) ?_
      intro K K0 hK hK0
      go_simp
      refine ⟨trivial, (fun h => (by cases h)), ?_⟩
      refine (calls_round (str_any (.slice a2 n2 c2) (chgsB p ++ strL xk ++ numL 1) xn (by rw [List.length_append, List.length_append]; omega) z2 Ho2.out.read)).mono ?_
      rintro e z3 ⟨v3, rfl, ho3, hb7⟩
      have z3k : KeptW W2 z3 := KeptW.mono z2k hb7
      refine hK _ _ z3k ?_
      clear hK K hK0 K0
      obtain ⟨a3, n3, c3, rfl⟩ := ho3.read.slice
      have Ho3 := Lib.hid ho3; clear ho3
      have hBx := H2.out.2.1.below (KeptW.bel z3k)
      have k0 := hBx.cell
      have k1 := hBx.frozen
      refine RegK.can_frees (fun _ => trivial) ?_
      intro K K0 hK hK0
      go_simp
      refine hK (fun _ => True) _ _ trivial ?_
      clear hK K hK0 K0 k0 k1
      refine RegK.can_calm ?_
      have hbZ : Below w.heap.size w z3 := H2.out.2.2.2.2.1.trans ((KeptW.bel z3k).mono Hz2.out)
      have hBZ := H2.out.2.1.below (KeptW.bel z3k)
      have hKZ := (H2.out.2.2.2.2.2.below (KeptW.bel z3k) Hz2.out).set (g := w.heap.size + 1) (i := 0) (x := .slice a3 n3 c3) (by omega) (by omega)
      refine ⟨hKZ.f, hKZ.c, ?_⟩
      dsimp only
      rw [Hp.out.1]
      refine ⟨?_, ⟨_, hBZ.set, ?_⟩, below_setV hbZ (by omega)⟩
      · have h := (H2.out.1.below (KeptW.bel z3k)).other (B' := w.heap.size + 1) (v' := .slice a3 n3 c3) (by omega)
        rw [List.length_append, Hm.out]
        exact h
      · have e : chgsB (p ++ [⟨xk, xo, xn, xa, true⟩]) = chgsB p ++ strL xk ++ numL 1 ++ strL xn := by
          rw [chgsB_app]
          simp [chgsB, chgB]
        rw [e]
        exact (Ho3.out.mono (Nat.le_trans Hz2.out (KeptW.bel z2k).size)).setOther hBZ (by decide)
    | false =>
      have hn0l := (numL_len 0).1
      gi_wp2_with (first
        | (refine ⟨trivial, (fun h => (by cases h)), ?_⟩; generalize V2.setCell ⟨w.heap.size, 0, none⟩ (.int .u64 ((m : Int) + 1)) = W1 at *; refine (calls_round (str_any _ (chgsB p) xk (by omega) W1 H1.out.2.2.1.read)).mono ?_; rintro e y1 ⟨v1, rfl, ho1, hb1⟩; obtain ⟨a1, n1, c1, rfl⟩ := ho1.read.slice; have Ho1 := Lib.hid ho1; clear ho1; have Hb1 := Lib.hid hb1; clear hb1; have d0 := (H1.out.2.1.below Hb1.out).cell; have d1 := (H1.out.2.1.below Hb1.out).frozen; obtain ⟨q0, q1, q2, q3⟩ := (H1.out.2.2.2.1.below Hb1.out).cells; clear f0 f1 f2 f3)
        | (refine ⟨trivial, (fun h => (by cases h)), ?_⟩
           have hB2 := (H1.out.2.1.below Hb1.out).set (v' := .slice a1 n1 c1)
           have hN2 := (H1.out.1.below Hb1.out).other (B' := w.heap.size + 1) (v' := .slice a1 n1 c1) (by omega)
           have hC2 := (H1.out.2.2.2.1.below Hb1.out).other (i := 0) (x := .slice a1 n1 c1) hgn
           have hO2 : OwnB (y1.setCell ⟨w.heap.size + 1, 0, none⟩ (.slice a1 n1 c1)) w.heap.size 5 (.slice a1 n1 c1) (chgsB p ++ strL xk) := (Ho1.out.mono Hz1.out).setOther (H1.out.2.1.below Hb1.out) (by decide)
           have hb2 := below_setV (i := 0) (x := .slice a1 n1 c1) (H1.out.2.2.2.2.1.trans (Hb1.out.mono Hz1.out)) (show w.heap.size ≤ w.heap.size + 1 by omega)
           have hK3 := (H1.out.2.2.2.2.2.below Hb1.out Hz1.out).set (g := w.heap.size + 1) (i := 0) (x := .slice a1 n1 c1) (by omega) (by omega)
           have hz2 : w.heap.size ≤ (y1.setCell ⟨w.heap.size + 1, 0, none⟩ (.slice a1 n1 c1)).heap.size := by have h1 := Hz1.out; have h2 := Hb1.out.size; simp [World.setCell]; omega
           clear H1 Ho1 Hb1 Hz1 d0 d1 q0 q1 q2 q3
           have H2 := Lib.hid (And.intro hN2 (And.intro hB2 (And.intro hO2 (And.intro hC2 (And.intro hb2 hK3))))); clear hN2 hB2 hO2 hC2 hb2 hK3
           have Hz2 := Lib.hid hz2; clear hz2
           generalize y1.setCell ⟨w.heap.size + 1, 0, none⟩ (.slice a1 n1 c1) = W2 at *
           refine (calls_round (num_any (.slice a1 n1 c1) (chgsB p ++ strL xk) 0 (by decide) (by rw [List.length_append]; omega) W2 H2.out.2.2.1.read)).mono ?_
           rintro e y2 ⟨v2, rfl, ho2, hb2⟩
           obtain ⟨a2, n2, c2, rfl⟩ := ho2.read.slice
           have Ho2 := Lib.hid ho2; clear ho2
           have Hb2 := Lib.hid hb2; clear hb2
           have d0 := (H2.out.2.1.below Hb2.out).cell
           have d1 := (H2.out.2.1.below Hb2.out).frozen))
      have hbZ : Below w.heap.size w y2 := H2.out.2.2.2.2.1.trans (Hb2.out.mono Hz2.out)
      have hBZ := H2.out.2.1.below Hb2.out
      have hKZ := (H2.out.2.2.2.2.2.below Hb2.out Hz2.out).set (g := w.heap.size + 1) (i := 0) (x := .slice a2 n2 c2) (by omega) (by omega)
      refine ⟨hKZ.f, hKZ.c, ?_⟩
      dsimp only
      rw [Hp.out.1]
      refine ⟨?_, ⟨_, hBZ.set, ?_⟩, below_setV hbZ (by omega)⟩
      · have h := (H2.out.1.below Hb2.out).other (B' := w.heap.size + 1) (v' := .slice a2 n2 c2) (by omega)
        rw [List.length_append, Hm.out]
        exact h
      · have e : chgsB (p ++ [⟨xk, xo, xn, xa, false⟩]) = chgsB p ++ strL xk ++ numL 0 := by
          rw [chgsB_app]
          simp [chgsB, chgB]
        rw [e]
        exact (Ho2.out.mono Hz2.out).setOther hBZ (by decide)
  case done =>
    rintro E ys W hE hS hI hK
    clear Hstops HI9
    rw [hS] at hI
    obtain ⟨u, hbx, hown⟩ := hI.b
    obtain ⟨ua, un, uc, rfl⟩ := hown.read.slice
    have hDl2 := hDl
    have hGl : (chgsB D).length ≤ 8300 * D.length := by
      rw [← hS]
      exact (chgsB_len _ (fun c hc => by obtain ⟨q, _, rfl⟩ := List.mem_map.1 hc; exact q.property))
    have H1 := Lib.hid (And.intro hI.n (And.intro hbx (And.intro hown hI.bel))); clear hbx hown hI hS
    have HRW := Lib.hid (HR.out.below H1.out.2.2.2)
    have HK := Lib.hid hK; clear hK
    have HE := Lib.hid (show w.heap.size ≤ E by have := Hs9.out; omega)
    clear hE
    dsimp only
    go_upto_region 11 with fail
    have Hres := Lib.hid (show keysDB D = numL D.length ++ chgsB D from rfl)
    obtain ⟨m, hm⟩ : ∃ m, D.length = m := ⟨_, rfl⟩
    rw [hm] at H1 hDl hGl Hres
    clear hm
    have hnl := (numL_len m).1
    have hws : w.heap.size ≤ W.heap.size := H1.out.2.2.2.size
    refine (wpIn_wide (n := 1)).1 ?_
    refine RegK.wpIn_region_calm (F := Fence.wide) (KeptW W) [(0, 0), (1, 0), (3, 0), (2, 1), (4, 1), (5, 0)] (by kernel_rfl) (by kernel_rfl) (by kernel_rfl) ⟨rfl, rfl, rfl, Nat.le_refl _, fun _ _ => rfl⟩ ?_
    dsimp only [RegK.pick, List.getElem?_cons_zero, List.getElem?_cons_succ]
    change RegK.Can _ _ _ _ _ _ _ _ W.drew
    have hkd : KeptW W W.drew := ⟨rfl, rfl, rfl, Nat.le_refl _, fun _ _ => rfl⟩
    generalize W.drew = z1 at *
    refine RegK.can_reads ?_; intro K hK; go_simp; (first | refine ⟨_, fun _ _ => rfl, hK _ ?_⟩ | refine hK _ ?_); clear hK K
    refine RegK.can_reads ?_
    intro K hK
    go_simp
    refine ⟨.int .u64 (m : Int), fun y hy => ?_, hK _ ?_⟩
    · have k0 := (H1.out.1.below (KeptW.bel hy)).cell
      go_simp
    clear hK K
    refine RegK.can_reads ?_
    intro K hK
    go_simp
    refine ⟨.slice ua un uc, fun y hy => ?_, hK _ ?_⟩
    · have k0 := (H1.out.2.1.below (KeptW.bel hy)).cell
      go_simp
    clear hK K
    refine RegK.can_turns (fun _ => trivial) ?_
    intro K K0 hK hK0
    go_simp
    refine ⟨trivial, ?_⟩
    refine (callsIn_wide.2 (num_any (.slice a n c) l m (by omega) (by omega) z1 (HRW.out.below (KeptW.bel hkd)))).mono ?_
    rintro e z2 ⟨v2, rfl, ho2, hb7⟩
    have z2k : KeptW W z2 := KeptW.mono hkd hb7
    refine hK _ _ z2k ?_
    clear hK K hK0 K0
    obtain ⟨a2, n2, c2, rfl⟩ := ho2.read.slice
    have Ho2 := Lib.hid ho2; clear ho2
    have Hb2 := Lib.hid (KeptW.bel z2k)
    have Hle := Lib.hid (show W.heap.size ≤ z1.heap.size from (KeptW.bel hkd).size)
    refine RegK.can_turns (fun _ => trivial) ?_
    intro K K0 hK hK0
    rw [if_pos (by simp [Region.wanted])]
    refine RegK.op_wide rfl ?_
    refine wp_append_read _ _ 44 rfl z1.heap.size 5 i0 (.int .u8 0) Tryz.underlying44 hi0 hz0 hs0 hb0 rfl _ _ _ rfl Ho2.out _ _ rfl (H1.out.2.2.1.below Hb2.out).read (by rw [List.length_append]; omega) hb7.size ?_
    intro v6 w6 ho6 hg6
    have hbw6 : Below W.heap.size W w6 := below_grown hg6 Hb2.out Hb2.out.size (fun k hk => Nat.le_trans Hle.out (Ho2.out.block k hk))
    refine hK _ _ (KeptW.mono ⟨rfl, rfl, rfl, Nat.le_refl _, fun _ _ => rfl⟩ hbw6) ?_
    clear hK K hK0 K0
    have Ho6 := Lib.hid (OwnB.of ho6 rfl rfl); clear ho6
    have Hb6 := Lib.hid hbw6; clear hbw6 hg6
    refine RegK.can_reads ?_; intro K hK; go_simp; (first | refine ⟨_, fun _ _ => rfl, hK _ ?_⟩ | refine hK _ ?_); clear hK K
    refine RegK.can_calm ?_
    go_wp2_with fail
    have hxE : w6.heap[E]? = some (.deferred (some [])) := (Hb6.out.block E (Array.getElem?_eq_some_iff.1 HK.out).1).trans HK.out
    have hbE : Below w.heap.size w (w6.putObj E (.deferred none)) := (H1.out.2.2.2.trans (Hb6.out.mono hws)).trans (belowK_b (w := w) (Nat.le_refl _) w6 E _ _ HE.out hxE rfl rfl)
    have hoE : OwnB (w6.putObj E (.deferred none)) w.heap.size 5 v6 (l ++ keysDB D) := by
      have h := (Ho6.out.mono (Nat.le_trans hws Hle.out)).own (grownBy_putObj' w6 E (.deferred none)) (fun r e => by cases e; exact ⟨_, hxE, rfl⟩)
      rw [Hres.out, ← List.append_assoc]
      exact h
    refine ⟨by simp, .inl ⟨_, _, rfl, run_takeDeferred hxE, ?_⟩⟩
    refine ⟨v6, ?_, ⟨v6, rfl, hoE, hbE⟩⟩
    simp [results, Tryz.results139, go_sem]
theorem putKeys_any (A B : Tr) (v : Value) (l : List UInt8) (hl : l.length ≤ 1000000) (w : World) (h : ReadB w v l) (hA : TreeAt w A) (hB : TreeAt w B) (haA : Asc A.sh.kv) (haB : Asc B.sh.kv) (hcA : A.cnt ≤ 1000000) (hcB : B.cnt ≤ 1000000) (hG : ∀ c ∈ diffL A.kvs B.kvs, ChgOk c) :
  Calls Tryz.prog 139 #[v, .pointer A.ptr, .pointer B.ptr] w fun e w' => ∃ v', e = .returned v' ∧ OwnB w' w.heap.size 5 v' (l ++ keysDB (diffL A.kvs B.kvs)) ∧ Below w.heap.size w w' :=
 callsIn_wide.1 (putKeys_in A B v l hl w h hA hB haA haB hcA hcB hG 3 (Nat.le_refl _))
end Go.Proofs.YtbckjgageofldaaGreat
namespace Go.Proofs.YtbckjgageofldaaGreat
open Go.RowKit
def RdV.sumP (R : RdV) : Nat → Nat × RdV
 | 0 => (0, R)
 | i + 1 => ((R.sumP i).1 + (R.sumP i).2.byte.1.toNat * 2 ^ (8 * i), (R.sumP i).2.byte.2)
theorem sumP_lt (R : RdV) : ∀ i, (R.sumP i).1 < 2 ^ (8 * i)
 | 0 => by simp [RdV.sumP]
 | i + 1 => by
  have h := sumP_lt R i
  have hb := (R.sumP i).2.byte.1.toNat_lt
  unfold RdV.sumP
  rw [show 8 * (i + 1) = 8 * i + 8 by omega, Nat.pow_add]
  generalize 2 ^ (8 * i) = q at *
  have : (R.sumP i).2.byte.1.toNat * q + q ≤ 256 * q := by
   have := Nat.mul_le_mul_right q (show (R.sumP i).2.byte.1.toNat + 1 ≤ 256 by omega)
   rw [Nat.add_mul, Nat.one_mul] at this
   exact this
  rw [Nat.mul_comm q]
  show _ < 256 * q
  omega
theorem or_shift (n b i : Nat) (hn : n < 2 ^ (8 * i)) (hb : b < 256) (hi : i < 8) :
  bits BinOp.or IntKind.u64 (n : Int) (IntKind.u64.wrap (IntKind.u64.wrap (b : Int) * 2 ^ (8 * i))) = ((n + b * 2 ^ (8 * i) : Nat) : Int) := by
 have h1 : b * 2 ^ (8 * i) < 18446744073709551616 := by
  have h2 : (2 : Nat) ^ (8 * i) ≤ 2 ^ 56 := Nat.pow_le_pow_right (by omega) (by omega)
  have h3 := Nat.mul_le_mul (show b ≤ 255 by omega) h2
  have h4 : 255 * (2 : Nat) ^ 56 < 18446744073709551616 := by decide
  omega
 have h5 : n < 18446744073709551616 := by
  have h2 : (2 : Nat) ^ (8 * i) ≤ 2 ^ 56 := Nat.pow_le_pow_right (by omega) (by omega)
  have h4 : (2 : Nat) ^ 56 < 18446744073709551616 := by decide
  omega
 have hw1 : IntKind.u64.wrap (b : Int) = (b : Int) := by rw [IntKind.wrap_u64]; omega
 have hc : ((b : Int) * 2 ^ (8 * i)) = ((b * 2 ^ (8 * i) : Nat) : Int) := by rw [Int.natCast_mul, Int.natCast_pow]; rfl
 have hw2 : IntKind.u64.wrap ((b * 2 ^ (8 * i) : Nat) : Int) = ((b * 2 ^ (8 * i) : Nat) : Int) := by
  generalize b * 2 ^ (8 * i) = q at *
  rw [IntKind.wrap_u64]
  omega
 rw [hw1, hc, hw2]
 have h := or_bv (BitVec.ofNat 64 n) (BitVec.ofNat 64 (b * 2 ^ (8 * i)))
 have e1 : (BitVec.ofNat 64 n).toNat = n := by simp; omega
 have e2 : (BitVec.ofNat 64 (b * 2 ^ (8 * i))).toNat = b * 2 ^ (8 * i) := by
  generalize b * 2 ^ (8 * i) = q at *
  simp
  omega
 rw [BitVec.toNat_or, e1, e2] at h
 rw [h]
 congr 1
 have hk := Nat.two_pow_add_eq_or_of_lt hn b
 rw [Nat.or_comm, Nat.mul_comm b, ← hk, Nat.add_comm]
set_option maxRecDepth 100000 in
set_option maxHeartbeats 8000000 in
theorem takeSum_any (R : RdV) (g : Nat) (w : World) (h : RdAt w g R) :
  Calls Tryz.prog 94 #[.pointer (some ⟨g, 0, none⟩)] w fun e w' => e = .returned (.int .u64 ((R.sumP 8).1 : Int)) ∧ RdAt w' g (R.sumP 8).2 ∧ Only g w w' := by
 have H := Lib.hid h; clear h
 go_enter Tryz.func94, Tryz.ntmps94
 go_wp2_with fail
 go_loopw [3, 5] (fun s3 s5 wr => ∃ i : Nat, i ≤ 8 ∧ s5 = .int .i64 (i : Int) ∧ s3 = .int .u64 ((R.sumP i).1 : Int) ∧ RdAt wr g (R.sumP i).2 ∧ Only g w wr) (fun _ s5 _ => 8 - (intOf s5).toNat)
 case atStart => exact ⟨0, by omega, rfl, rfl, H.out, Only.refl _ _⟩
 case round =>
  obtain ⟨i, hi, rfl, rfl, hr, ho⟩ := hrel
  clear H
  have Ho := Lib.hid ho; clear ho
  by_cases hlt : i < 8
  ·
   have hlt' : (i : Int) < 8 := by omega
   have hsucc := tsucc (n := i) (by omega)
   have Hb := Lib.hid (byte_any (R.sumP i).2 g wr hr); clear hr
   go_wp2_with ((with_reducible refine Hb.out.mono ?_); rintro e w2 ⟨rfl, h2⟩; have H2 := Lib.hid h2; clear h2 Hb)
   have hor := or_shift (R.sumP i).1 (R.sumP i).2.byte.1.toNat i (sumP_lt R i) (R.sumP i).2.byte.1.toNat_lt hlt
   refine ⟨⟨i + 1, hlt, by simp, ?_, H2.out.1, Ho.out.trans H2.out.2⟩, by simp [intOf]; omega⟩
   rw [hor]
   rfl
  ·
   have hlt' : ¬ (i : Int) < 8 := by omega
   have he : i = 8 := by omega
   subst he
   go_wp2_with fail
   go_ret
   exact ⟨rfl, hr, Ho.out⟩
end Go.Proofs.YtbckjgageofldaaGreat
