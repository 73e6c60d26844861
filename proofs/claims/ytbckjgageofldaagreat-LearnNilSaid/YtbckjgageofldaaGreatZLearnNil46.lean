/- Chains: Follow. Condition: the chain lies there. -/
import Derived.Test.YtbckjgageofldaaGreatZLearnNil45
import Derived.Test.YtbckjgageofldaaGreatZLearnNil39
import Derived.Test.YtbckjgageofldaaGreatZLearnNil40
import Derived.Test.YtbckjgageofldaaGreatZLearnNil16
import Derived.Test.YtbckjgageofldaaGreatZLearnNil4
import Derived.Test.YtbckjgageofldaaGreatZLearnNil37
namespace Go.Proofs.YtbckjgageofldaaGreat
open Go.RowKit
theorem fol_start {w : World} (A : MacV) (X : Tr) (m : LmV) (hX : TreeAt w X) : ∀ y, y = ((w.alloc (.cells (macCells A X.ptr).toArray 38)).alloc (.cells (lmCells m).toArray 58)).alloc (.cells (macCells macNone none).toArray 38) → MacAt y w.heap.size A X.ptr ∧ LmAt y (w.heap.size + 1) m ∧ MacAt y (w.heap.size + 1 + 1) macNone none ∧ TreeAt y X ∧ Below w.heap.size w y := by
 rintro y rfl
 have b1 := (Below.refl w.heap.size w).alloc (Nat.le_refl _) (.cells (macCells A X.ptr).toArray 38)
 have m1 : MacAt (w.alloc (.cells (macCells A X.ptr).toArray 38)) w.heap.size A X.ptr := heap_alloc_new _ _
 generalize hq1 : w.alloc (.cells (macCells A X.ptr).toArray 38) = w1 at *
 have b2 := (Below.refl w1.heap.size w1).alloc (Nat.le_refl _) (.cells (lmCells m).toArray 58)
 have m2 : LmAt (w1.alloc (.cells (lmCells m).toArray 58)) w1.heap.size m := heap_alloc_new _ _
 have s1 : w1.heap.size = w.heap.size + 1 := by rw [← hq1, World.size_alloc]
 generalize hq2 : w1.alloc (.cells (lmCells m).toArray 58) = w2 at *
 have b3 := (Below.refl w2.heap.size w2).alloc (Nat.le_refl _) (.cells (macCells macNone none).toArray 38)
 have m3 : MacAt (w2.alloc (.cells (macCells macNone none).toArray 38)) w2.heap.size macNone none := heap_alloc_new _ _
 have s2 : w2.heap.size = w1.heap.size + 1 := by rw [← hq2, World.size_alloc]
 have b23 := b2.trans (b3.mono b2.size)
 have ball := b1.trans (b23.mono b1.size)
 rw [s1] at m2
 rw [s2, s1] at m3
 exact ⟨m1.below b23, m2.below b3, m3, hX.below ball, ball⟩
set_option maxRecDepth 100000 in
set_option maxHeartbeats 16000000 in
theorem follow_delta (n : Nat) (A : MacV) (X : Tr) (m : LmV) (hA : MacAll A) (hsA : X.sh = A.sh) (hk : m.k = 13) (hs : n < m.s) (hf : m.f = n) (hsl : m.s < 18446744073709551616) (t r : List UInt8) (ht : t.length ≤ 3) (hrl : r.length ≤ 4000000) (C : ChV) (hC : chOf m.s t = some C) (hx : m.x = numL t.length ++ t ++ r) (w : World) (hX : TreeAt w X) :
  Calls Tryz.prog 18 #[.int .u64 (n : Int), macV A X.ptr, lmV m] w (ReadPost w C t (patchM A r).1 (patchM A r).2) := by
 have hk' : (m.k : Int) = 13 := by rw [hk]; rfl
 have Hk := Lib.hid hk'
 have hle : ¬ (m.s : Int) ≤ (n : Int) := by omega
 have hne : ((m.f : Int) != (n : Int)) = false := by rw [bne_eq_false_iff_eq]; omega
 have Hp := Lib.hid (fun (y : World) (gq : Nat) (hq : MacAt y gq A X.ptr) (hy : TreeAt y X) => (show Calls Tryz.prog 48 #[.int .u64 (m.s : Int), .string ⟨m.x.toArray⟩, .func (.func 49) #[] #[.pointer (some ⟨gq, 0, none⟩)]] y (ReadPost y C t (patchM A r).1 (patchM A r).2) by
  rw [hx]
  exact read_patch m.s hsl t r ht hrl C hC (patchM A r).1 (patchM A r).2 gq y (fun z hz => follow1_any A X hA gq r (by unfold maxLen; omega) z (hq.below hz) (hy.below hz) hsA)))
 clear hk hk' hs hC hx ht hsl hf hA hsA hrl
 obtain ⟨⟨M, k⟩, hMk⟩ : ∃ z, patchM A r = z := ⟨_, rfl⟩
 rw [hMk] at Hp ⊢
 clear hMk
 dsimp only at Hp ⊢
 have Hst := Lib.hid (fol_start A X m hX)
 clear hX
 obtain ⟨g, hg⟩ : ∃ g, w.heap.size = g := ⟨_, rfl⟩
 rw [hg] at Hst
 unfold lmV macV
 rw [mac_eta, lm_eta]
 go_enter Tryz.func18, Tryz.ntmps18
 go_upto_region 1 with fail
 simp only [← mac_eta, ← lm_eta]
 change Code.wp _ _ _ _ (((w.alloc (.cells (macCells A X.ptr).toArray 38)).alloc (.cells (lmCells m).toArray 58)).alloc (.cells (macCells macNone none).toArray 38))
 obtain ⟨w1, hw1⟩ : ∃ y, y = ((w.alloc (.cells (macCells A X.ptr).toArray 38)).alloc (.cells (lmCells m).toArray 58)).alloc (.cells (macCells macNone none).toArray 38) := ⟨_, rfl⟩
 rw [← hw1]
 have Hm := Lib.hid (Hst.out w1 hw1)
 have Hg := Lib.hid hg
 have HB := Lib.hid (show Below w.heap.size w w1 by rw [hg]; exact Hm.out.2.2.2.2)
 clear hw1 Hst hg
 have f0 : w1.cell? ⟨g + 1, 0, none⟩ = some (.int .u8 (m.k : Int)) := cell_of_row _ _ _ _ _ _ Hm.out.2.1
 have f3 : w1.cell? ⟨g + 1, 3, none⟩ = some (.int .u64 (m.f : Int)) := cell_of_row _ _ _ _ _ _ Hm.out.2.1
 have f4 : w1.cell? ⟨g + 1, 4, none⟩ = some (.int .u64 (m.s : Int)) := cell_of_row _ _ _ _ _ _ Hm.out.2.1
 have f6 : w1.cell? ⟨g + 1, 6, none⟩ = some (.string ⟨m.x.toArray⟩) := cell_of_row _ _ _ _ _ _ Hm.out.2.1
 have Hth := Lib.hid (show w1.there (g + 1 + 1) 0 15 from there_row (cs := macCells macNone none) Hm.out.2.2.1)
 rw [Hk.out] at f0
 have Hpa := Lib.hid (Hp.out w1 g Hm.out.1 Hm.out.2.2.2.1)
 go_wp2_with (first
  | ((with_reducible refine Hpa.out.mono ?_); rintro e w2 ⟨hb2, Pc, M2, P2, rfl, hE, hO⟩; have Hth := Lib.hid (show w2.there (g + 1 + 1) 0 15 from there_row (cs := macCells macNone none) (Hm.out.2.2.1.below hb2)); have HO := Lib.hid (And.intro hb2 (And.intro hE hO)); clear hb2 hE hO; unfold macV)
  | ((with_reducible refine wpList_store_mid rfl 38 _ _ rfl (g + 1 + 1) 0 _ rfl rfl ?_ ?_ ?_ ?_); exact Hth.out; exact mac_size; exact all_oneCell_toArray (mac_one M2 P2)))
 have hrel := read_relay HB.out Hm.out.2.2.1 (by rw [Hg.out]; omega) HO.out.1 HO.out.2.1 HO.out.2.2
 have hz := macSt_at (Hm.out.2.2.1.below HO.out.1) M2 P2
 rw [show w2.setCells (g + 1 + 1) 0 (macCells M2 P2).toArray.toList = rowSt w2 (g + 1 + 1) 0 (macCells M2 P2) from st_eq _ _ _]
 generalize rowSt w2 (g + 1 + 1) 0 (macCells M2 P2) = w9 at *
 refine bodyPost_ret (v := .tuple #[.pointer Pc, macV M2 P2, .int .i64 (readE t M k : Int)]) (by simp [results, Tryz.results18, show (asAddr (Value.pointer (some ⟨g + 1 + 1, 0, none⟩))).run Tryz.prog w9 = .ok ⟨g + 1 + 1, 0, none⟩ w9 from rfl, mac_loadVar hz]) rfl ?_
 exact hrel
end Go.Proofs.YtbckjgageofldaaGreat
namespace Go.Proofs.YtbckjgageofldaaGreat
open Go.RowKit
def enc1 (b : UInt8) : List Value := [.int .u8 (b.toNat : Int)]
theorem enc1_len (b : UInt8) : (enc1 b).length = 1 := rfl
theorem enc1_one (b : UInt8) : ∀ u ∈ enc1 b, u.oneCell' = true := by simp [enc1, Value.oneCell']
theorem flat1 : ∀ l : List UInt8, flat enc1 l = bcells l
 | [] => rfl
 | b :: r => by
  have h := flat1 r
  unfold flat bcells at *
  rw [List.flatMap_cons, h]
  rfl
theorem own_slice1 {w : World} {base : Nat} {t : TypeId} {A : Option Addr} {n c : Nat} {l : List UInt8} (h : OwnB w base t (.slice A n c) l) (hm : n ≤ maxLen) : SliceAt 1 enc1 w A n l ∧ (A = none → n = 0 ∧ c = 0) := by
 have hn := h.len
 subst hn
 have h2 : w.ownsRow base t 1 (.slice A l.length c) l.length (flat enc1 l) := by rw [flat1]; exact h
 exact ⟨own_slice enc1_len h2 rfl hm, own_nil h2⟩
theorem rc_size : (Tryz.prog.info? 46).map (·.size) = some 2 := by kernel_rfl
set_option maxHeartbeats 4000000 in
theorem rtop_any (D : List UInt8) (v : Value) (hD : 0 < D.length) (hl : D.length ≤ 1000000) (base : Nat) (w : World) (h : OwnB w base 5 v D) :
  Calls Tryz.prog 59 #[.agg #[.int .u64 0, v]] w fun e w' => e = .returned (.int .u64 ((D.length - 1 : Nat) : Int)) ∧ Below w.heap.size w w' := by
 obtain ⟨a, n, c, rfl⟩ := h.read.slice
 have hn := h.len
 have hb1 := (Below.refl w.heap.size w).alloc (Nat.le_refl _) (.cells #[.int .u64 0, .slice a n c] 46)
 have hw1 : IntKind.u64.wrap (n : Int) = (n : Int) := by rw [IntKind.wrap_u64]; omega
 have hw3 : IntKind.u64.wrap ((n : Int) - 1) = ((D.length - 1 : Nat) : Int) := by rw [IntKind.wrap_u64]; omega
 have Hb1 := Lib.hid hb1
 clear hb1 hn hD hl h
 go_enter Tryz.func59, Tryz.ntmps59
 go_wp2_with fail
 go_ret
 exact ⟨rfl, Hb1.out⟩
structure PuC (w : World) (g : Nat) (v : Value) (y : World) : Prop where
 bel : Below w.heap.size w y
 row : y.heap[g]? = some (.cells #[.int .u64 0, v] 46 (0, 0))
 res : ∃ p q, y.heap[g + 1]? = some (.cells #[p, q] 46 (0, 0))
theorem PuC.below {w y y' : World} {g : Nat} {v : Value} (h : PuC w g v y) (hb : Below y.heap.size y y') : PuC w g v y' :=
 ⟨h.bel.trans (hb.mono h.bel.size), (hb.block _ (Array.getElem?_eq_some_iff.1 h.row).1).trans h.row, by obtain ⟨p, q, e⟩ := h.res; exact ⟨p, q, (hb.block _ (Array.getElem?_eq_some_iff.1 e).1).trans e⟩⟩
theorem own_ne1 {w : World} {base p : Nat} {v : Value} {l : List UInt8} {cs : Array Value} (ho : OwnB w base 5 v l) (hr : w.heap[p]? = some (.cells cs 46 (0, 0))) : ∀ k, v.ownBlock = some k → k ≠ p := by
 rintro k hk rfl
 rcases ho.2 with ⟨rfl, _⟩ | ⟨g, cap, cur, rfl, _, hg, _⟩
 ·
  cases hk
 ·
  have e : g = k := Option.some.inj hk
  subst e
  rw [hr] at hg
  simp at hg
set_option maxRecDepth 100000 in
set_option maxHeartbeats 16000000 in
theorem rpush_any (D : List UInt8) (v : Value) (x : Nat) (hx : x < 256) (hok : dirOk (UInt8.ofNat x) = true) (hD : 0 < D.length) (hl : D.length ≤ 1000000) (base : Nat) (w : World) (h : OwnB w base 5 v D) :
  Calls Tryz.prog 47 #[.agg #[.int .u64 0, v], .int .u8 (x : Int)] w fun e w' => ∃ v', e = .returned (.tuple #[.agg #[.int .u64 0, v'], .int .i64 0]) ∧ OwnB w' w.heap.size 5 v' (D ++ [UInt8.ofNat x]) ∧ Below w.heap.size w w' := by
 obtain ⟨i0, hi0, hz0, hs0, hb0⟩ := info_parts info8
 have hd := fun y : World => rdir_any x hx y
 rw [hok] at hd
 have ht := fun (y : World) (hy : Below w.heap.size w y) => rtop_any D v hD hl base y (h.below hy)
 obtain ⟨a, n, c, rfl⟩ := h.read.slice
 have hn := h.len
 have hone := fun y : World => OwnB.one y (UInt8.ofNat x) 5
 have hx8 : ((UInt8.ofNat x).toNat : Int) = (x : Int) := by simp; omega
 rw [hx8] at hone
 have Hone := Lib.hid hone
 have Hv := Lib.hid h
 have Hd := Lib.hid hd
 have Ht := Lib.hid ht
 have hge : ((4611686018427387904 : Int) ≤ ((D.length - 1 : Nat) : Int)) = False := by rw [eq_iff_iff, iff_false]; omega
 have hnl : n ≤ 1000000 := by omega
 have Hn := Lib.hid (And.intro hn hnl)
 clear hone hx8 hd ht hn hD hl h hnl hok
 generalize hT : D.length - 1 = T at *
 clear hT
 obtain ⟨g, hg⟩ : ∃ g, w.heap.size = g := ⟨_, rfl⟩
 have hb1 := (Below.refl w.heap.size w).alloc (Nat.le_refl _) (.cells #[.int .u64 0, .slice a n c] 46)
 have hb2 := hb1.alloc hb1.size (.cells #[.int .u64 0, .slice none 0 0] 46)
 have hr1 := heap_alloc_new w (.cells #[.int .u64 0, .slice a n c] 46)
 have hr2 := heap_alloc_new (w.alloc (.cells #[.int .u64 0, .slice a n c] 46)) (.cells #[.int .u64 0, .slice none 0 0] 46)
 have hr1b := (((Below.refl (w.heap.size + 1) (w.alloc (.cells #[.int .u64 0, .slice a n c] 46))).alloc (by simp) (.cells #[.int .u64 0, .slice none 0 0] 46)).block w.heap.size (by omega)).trans hr1
 rw [World.size_alloc] at hr2
 have hc0 : PuC w w.heap.size (.slice a n c) ((w.alloc (.cells #[.int .u64 0, .slice a n c] 46)).alloc (.cells #[.int .u64 0, .slice none 0 0] 46)) := ⟨hb2, hr1b, ⟨_, _, hr2⟩⟩
 rw [hg] at hc0
 have Hc0 := Lib.hid hc0
 clear hb1 hb2 hr1 hr2 hr1b hc0
 go_enter Tryz.func47, Tryz.ntmps47
 go_upto_region 1 with fail
 change Code.wp _ _ _ _ ((w.alloc (.cells #[.int .u64 0, .slice a n c] 46)).alloc (.cells #[.int .u64 0, .slice none 0 0] 46))
 generalize (w.alloc (.cells #[.int .u64 0, .slice a n c] 46)).alloc (.cells #[.int .u64 0, .slice none 0 0] 46) = w1 at *
 have Hg := Lib.hid hg
 have f0 := cell_of_row _ _ 0 _ _ _ Hc0.out.row
 have f1 := cell_of_row _ _ 1 _ _ _ Hc0.out.row
 go_upto_region 5 with (first
  | ((with_reducible refine (Hd.out _).mono ?_); rintro e w2 ⟨rfl, rfl⟩)
  | ((with_reducible refine (Ht.out _ Hc0.out.bel).mono ?_); rintro e w3 ⟨rfl, h3⟩; have H3 := Lib.hid h3; clear h3))
 have Hc3 := Lib.hid (Hc0.out.below H3.out)
 clear f0 f1 H3 Hc0 hg
 refine (wpIn_wide (n := 1)).1 ?_
 refine RegJ.wpIn_region_plan (F := Fence.wide) (PuC w g (.slice a n c)) (.step 0 0 (.step 1 0 (.step 2 0 (.step 3 0 (.step 5 0 (.fork 4 (.step 6 1 (.step 7 1 (.step 8 0 (.step 9 1 (.step 10 0 .nil))))) 6 (.step 4 1 (.step 7 1 (.step 8 0 (.step 9 1 (.step 10 0 .nil))))))))))) (by kernel_rfl) (by kernel_rfl) (by kernel_rfl) (fun _ _ d _ _ h => by cases d <;> exact h) (Hc3.out.below ⟨rfl, rfl, rfl, Nat.le_refl _, fun _ _ => rfl⟩) ?_
 dsimp only [RegJ.pickJ, List.getElem?_cons_zero, List.getElem?_cons_succ]
 change RegJ.Can _ _ _ _ _ _ _ _ w3.drew
 have hkd : PuC w g (.slice a n c) w3.drew := Hc3.out.below ⟨rfl, rfl, rfl, Nat.le_refl _, fun _ _ => rfl⟩
 generalize w3.drew = w4 at *
 refine RegJ.reads ?_
 intro K hK
 go_simp
 refine ⟨_, fun _ _ => rfl, hK _ ?_⟩
 clear hK K
 refine RegJ.reads ?_
 intro K hK
 go_simp
 refine ⟨.int .u64 0, fun y hy => ?_, hK _ ?_⟩
 ·
  have f0 := cell_of_row _ _ 0 _ _ _ hy.row
  go_simp
 clear hK K
 refine RegJ.reads ?_
 intro K hK
 go_simp
 refine ⟨_, fun _ _ => rfl, hK _ ?_⟩
 clear hK K
 refine RegJ.reads ?_
 intro K hK
 go_simp
 refine ⟨.slice a n c, fun y hy => ?_, hK _ ?_⟩
 ·
  have f0 := cell_of_row _ _ 1 _ _ _ hy.row
  go_simp
 clear hK K
 refine RegJ.reads ?_
 intro K hK
 go_simp
 refine ⟨_, fun _ _ => rfl, hK _ ?_⟩
 clear hK K
 refine RegJ.forks ?_ ?_
 ·
  skip
  refine RegJ.turns (fun _ => trivial) ?_
  intro K K0 hK hK0
  rw [if_pos (by simp [Region.wanted])]
  refine RegK.op_wide rfl ?_
  obtain ⟨hsl, hnil⟩ := own_slice1 (Hv.out.below hkd.bel) (by unfold maxLen; have := Hn.out.2; omega)
  refine wp_append_slice (k := 1) (enc := enc1) _ _ 44 rfl w.heap.size 5 i0 _ 1 Tryz.underlying44 hi0 hz0 hs0 hb0 rfl (by omega) enc1_len enc1_one (.slice none 0 0) 0 [] rfl (World.ownsRow_nil _ _ _ _) a n c D rfl hsl hnil (by unfold maxLen; have := Hn.out.2; omega) (by have := Hn.out.2; omega) hkd.bel.size ?_
  intro v5 w5 ho5 hg5
  have hb5 : Below w4.heap.size w4 w5 := ⟨hg5.os, hg5.tape, hg5.output, hg5.size, fun q hq => hg5.block q hq (fun e => by cases e)⟩
  have hk5 := hkd.below hb5
  refine hK _ _ _ (fun _ h => h) hk5 ?_
  clear hK K hK0 K0 hg5 hsl hnil
  rw [Nat.zero_add, List.nil_append] at ho5
  refine RegJ.turns (fun _ => trivial) ?_
  intro K K0 hK hK0
  go_simp
  have hb6 := (Below.refl w5.heap.size w5).alloc (Nat.le_refl _) (.cells #[.int .u8 (x : Int)] 5)
  have qk := hk5.below hb6
  have qn := Hone.out w5
  have hq6 := qn
  have ho6 := (show w5.ownsRow w.heap.size 5 1 v5 n (flat enc1 D) from ho5).alloc (.cells #[.int .u8 (x : Int)] 5)
  have hk6 := qk
  refine hK _ _ (w5.alloc (.cells #[.int .u8 (x : Int)] 5)) (fun _ h => h) qk ?_
  clear hK K hK0 K0
  generalize w5.alloc (.cells #[.int .u8 (x : Int)] 5) = w6 at *
  generalize w5.heap.size = g5 at *
  obtain ⟨hs6, hn6⟩ := own_slice1 hq6 (by unfold maxLen; omega)
  refine RegJ.turns (fun _ => trivial) ?_
  intro K K0 hK hK0
  rw [if_pos (by simp [Region.wanted])]
  refine RegK.op_wide rfl ?_
  refine wp_append_slice (k := 1) (enc := enc1) _ _ 44 rfl w.heap.size 5 i0 _ 1 Tryz.underlying44 hi0 hz0 hs0 hb0 rfl (by omega) enc1_len enc1_one v5 n (flat enc1 D) rfl ho6 (some ⟨g5, 0, none⟩) 1 1 [UInt8.ofNat x] rfl hs6 hn6 (by unfold maxLen; have := Hn.out.2; omega) (by have := Hn.out.2; omega) hk6.bel.size ?_
  intro v7 w7 ho7 hg7
  have hv5 : ∀ q, v5.ownBlock = some q → g ≤ q := fun q hq => by have := (World.ownsRow.lt ho6 q hq).1; rw [Hg.out] at this; exact this
  have hk7 : Below w.heap.size w w7 := hk6.bel.trans ⟨hg7.os, hg7.tape, hg7.output, hg7.size, fun q hq => hg7.block q (Nat.lt_of_lt_of_le hq hk6.bel.size) (fun e => by have := hv5 q e.symm; rw [Hg.out] at hq; omega)⟩
  have hne : ∀ q, v5.ownBlock = some q → q ≠ g ∧ q ≠ g + 1 := fun q hq => by
   rcases ho6.2 with ⟨e1, _⟩ | ⟨q1, c1, u1, e1, _, hh, _⟩
   ·
    rw [e1] at hq; cases hq
   ·
    rw [e1] at hq
    have e2 : q1 = q := Option.some.inj hq
    subst e2
    refine ⟨fun e => ?_, fun e => ?_⟩
    ·
     subst e; rw [hk6.row] at hh; simp at hh
    ·
     subst e; obtain ⟨_, _, he⟩ := hk6.res; rw [he] at hh; simp at hh
  have hk8 : PuC w g (.slice a n c) w7 := ⟨hk7, (hg7.block g (Array.getElem?_eq_some_iff.1 hk6.row).1 (fun e => (hne g e.symm).1 rfl)).trans hk6.row, by obtain ⟨p, q, e⟩ := hk6.res; exact ⟨p, q, (hg7.block (g + 1) (Array.getElem?_eq_some_iff.1 e).1 (fun e => (hne (g + 1) e.symm).2 rfl)).trans e⟩⟩
  refine hK _ _ _ (fun _ h => h) hk8 ?_
  clear hK K hK0 K0
  have ho8 : OwnB w7 w.heap.size 5 v7 (D ++ [UInt8.ofNat x]) := OwnB.of ho7 (by have := Hn.out.1; simp; omega) (by rw [flat1, flat1])
  obtain ⟨a7, n7, c7, rfl⟩ := ho8.read.slice
  have HF := Lib.hid (And.intro ho8 hk8)
  clear ho7 ho8 hk7 hk8 hg7 hv5 hne hk6 ho6 hs6 hn6 hq6
  refine RegJ.reads ?_
  intro K hK
  go_simp
  refine ⟨_, fun _ _ => rfl, hK _ ?_⟩
  clear hK K
  obtain ⟨p, q, hres⟩ := HF.out.2.res
  have f0 := cell_of_row _ _ 0 _ _ _ hres
  have f1 := cell_of_row _ _ 1 _ _ _ hres
  have e0 := thawed_row 0 hres
  have e1 := thawed_row 1 hres
  have hz := rowSt_row [.int .u64 0, .slice a7 n7 c7] [] [p, q] w7 hres rfl
  have hb9 := rowSt_below (w0 := w) (n := w.heap.size) (g := g + 1) (by rw [Hg.out]; omega) [.int .u64 0, .slice a7 n7 c7] 0 _ HF.out.2.bel
  have ho9 : OwnB (rowSt w7 (g + 1) 0 [.int .u64 0, .slice a7 n7 c7]) w.heap.size 5 (.slice a7 n7 c7) (D ++ [UInt8.ofNat x]) := (HF.out.1.setNe (own_ne1 HF.out.1 hres)).setNe (own_ne1 HF.out.1 hres)
  have hr9 := (rowSt_other (g := g + 1) (y := w7) (show g ≠ g + 1 by omega) [.int .u64 0, .slice a7 n7 c7] 0).trans HF.out.2.row
  have HZ := Lib.hid hz
  have HE := Lib.hid (And.intro hb9 (And.intro ho9 hr9))
  clear hz hb9 ho9 hr9 hres
  refine RegJ.turns (fun _ => trivial) ?_
  intro K K0 hK hK0
  go_simp
  refine hK (PuC w g (.slice a n c)) _ (rowSt w7 (g + 1) 0 [.int .u64 0, .slice a7 n7 c7]) (fun _ h => h) ⟨HE.out.1, HE.out.2.2, ⟨_, _, HZ.out⟩⟩ ?_
  clear hK K hK0 K0 f0 f1 e0 e1
  generalize rowSt w7 (g + 1) 0 [.int .u64 0, .slice a7 n7 c7] = w9 at *
  refine RegJ.reads ?_
  intro K hK
  go_simp
  refine ⟨_, fun _ _ => rfl, hK _ ?_⟩
  clear hK K
  refine RegJ.nil ?_
  go_wp2_with fail
  refine bodyPost_ret (v := .tuple #[.agg #[.int .u64 0, .slice a7 n7 c7], .int .i64 0]) (by simp [results, Tryz.results47, show (asAddr (Value.pointer (some ⟨g + 1, 0, none⟩))).run Tryz.prog w9 = .ok ⟨g + 1, 0, none⟩ w9 from rfl, row2_loadVar HZ.out]) rfl ?_
  exact ⟨_, rfl, HE.out.2.1, HE.out.1⟩
 ·
  skip
  refine RegJ.turns (fun _ => trivial) ?_
  intro K K0 hK hK0
  go_simp
  have hb6 := (Below.refl w4.heap.size w4).alloc (Nat.le_refl _) (.cells #[.int .u8 (x : Int)] 5)
  have qk := hkd.below hb6
  have qn := Hone.out w4
  refine hK _ _ (w4.alloc (.cells #[.int .u8 (x : Int)] 5)) (fun _ h => h) qk ?_
  clear hK K hK0 K0
  generalize w4.alloc (.cells #[.int .u8 (x : Int)] 5) = wq at *
  generalize w4.heap.size = g5 at *
  refine RegJ.turns (fun _ => trivial) ?_
  intro K K0 hK hK0
  rw [if_pos (by simp [Region.wanted])]
  refine RegK.op_wide rfl ?_
  obtain ⟨hsl, hnil⟩ := own_slice1 (Hv.out.below qk.bel) (by unfold maxLen; have := Hn.out.2; omega)
  refine wp_append_slice (k := 1) (enc := enc1) _ _ 44 rfl w.heap.size 5 i0 _ 1 Tryz.underlying44 hi0 hz0 hs0 hb0 rfl (by omega) enc1_len enc1_one (.slice none 0 0) 0 [] rfl (World.ownsRow_nil _ _ _ _) a n c D rfl hsl hnil (by unfold maxLen; have := Hn.out.2; omega) (by have := Hn.out.2; omega) qk.bel.size ?_
  intro v5 w6 ho5 hg5
  have hb5 : Below wq.heap.size wq w6 := ⟨hg5.os, hg5.tape, hg5.output, hg5.size, fun q hq => hg5.block q hq (fun e => by cases e)⟩
  have hk5 := qk.below hb5
  refine hK _ _ _ (fun _ h => h) hk5 ?_
  clear hK K hK0 K0 hg5 hsl hnil
  rw [Nat.zero_add, List.nil_append] at ho5
  have hq6 := qn.below hb5
  have ho6 := ho5
  have hk6 := hk5
  obtain ⟨hs6, hn6⟩ := own_slice1 hq6 (by unfold maxLen; omega)
  refine RegJ.turns (fun _ => trivial) ?_
  intro K K0 hK hK0
  rw [if_pos (by simp [Region.wanted])]
  refine RegK.op_wide rfl ?_
  refine wp_append_slice (k := 1) (enc := enc1) _ _ 44 rfl w.heap.size 5 i0 _ 1 Tryz.underlying44 hi0 hz0 hs0 hb0 rfl (by omega) enc1_len enc1_one v5 n (flat enc1 D) rfl ho6 (some ⟨g5, 0, none⟩) 1 1 [UInt8.ofNat x] rfl hs6 hn6 (by unfold maxLen; have := Hn.out.2; omega) (by have := Hn.out.2; omega) hk6.bel.size ?_
  intro v7 w7 ho7 hg7
  have hv5 : ∀ q, v5.ownBlock = some q → g ≤ q := fun q hq => by have := (World.ownsRow.lt ho6 q hq).1; rw [Hg.out] at this; exact this
  have hk7 : Below w.heap.size w w7 := hk6.bel.trans ⟨hg7.os, hg7.tape, hg7.output, hg7.size, fun q hq => hg7.block q (Nat.lt_of_lt_of_le hq hk6.bel.size) (fun e => by have := hv5 q e.symm; rw [Hg.out] at hq; omega)⟩
  have hne : ∀ q, v5.ownBlock = some q → q ≠ g ∧ q ≠ g + 1 := fun q hq => by
   rcases ho6.2 with ⟨e1, _⟩ | ⟨q1, c1, u1, e1, _, hh, _⟩
   ·
    rw [e1] at hq; cases hq
   ·
    rw [e1] at hq
    have e2 : q1 = q := Option.some.inj hq
    subst e2
    refine ⟨fun e => ?_, fun e => ?_⟩
    ·
     subst e; rw [hk6.row] at hh; simp at hh
    ·
     subst e; obtain ⟨_, _, he⟩ := hk6.res; rw [he] at hh; simp at hh
  have hk8 : PuC w g (.slice a n c) w7 := ⟨hk7, (hg7.block g (Array.getElem?_eq_some_iff.1 hk6.row).1 (fun e => (hne g e.symm).1 rfl)).trans hk6.row, by obtain ⟨p, q, e⟩ := hk6.res; exact ⟨p, q, (hg7.block (g + 1) (Array.getElem?_eq_some_iff.1 e).1 (fun e => (hne (g + 1) e.symm).2 rfl)).trans e⟩⟩
  refine hK _ _ _ (fun _ h => h) hk8 ?_
  clear hK K hK0 K0
  have ho8 : OwnB w7 w.heap.size 5 v7 (D ++ [UInt8.ofNat x]) := OwnB.of ho7 (by have := Hn.out.1; simp; omega) (by rw [flat1, flat1])
  obtain ⟨a7, n7, c7, rfl⟩ := ho8.read.slice
  have HF := Lib.hid (And.intro ho8 hk8)
  clear ho7 ho8 hk7 hk8 hg7 hv5 hne hk6 ho6 hs6 hn6 hq6
  refine RegJ.reads ?_
  intro K hK
  go_simp
  refine ⟨_, fun _ _ => rfl, hK _ ?_⟩
  clear hK K
  obtain ⟨p, q, hres⟩ := HF.out.2.res
  have f0 := cell_of_row _ _ 0 _ _ _ hres
  have f1 := cell_of_row _ _ 1 _ _ _ hres
  have e0 := thawed_row 0 hres
  have e1 := thawed_row 1 hres
  have hz := rowSt_row [.int .u64 0, .slice a7 n7 c7] [] [p, q] w7 hres rfl
  have hb9 := rowSt_below (w0 := w) (n := w.heap.size) (g := g + 1) (by rw [Hg.out]; omega) [.int .u64 0, .slice a7 n7 c7] 0 _ HF.out.2.bel
  have ho9 : OwnB (rowSt w7 (g + 1) 0 [.int .u64 0, .slice a7 n7 c7]) w.heap.size 5 (.slice a7 n7 c7) (D ++ [UInt8.ofNat x]) := (HF.out.1.setNe (own_ne1 HF.out.1 hres)).setNe (own_ne1 HF.out.1 hres)
  have hr9 := (rowSt_other (g := g + 1) (y := w7) (show g ≠ g + 1 by omega) [.int .u64 0, .slice a7 n7 c7] 0).trans HF.out.2.row
  have HZ := Lib.hid hz
  have HE := Lib.hid (And.intro hb9 (And.intro ho9 hr9))
  clear hz hb9 ho9 hr9 hres
  refine RegJ.turns (fun _ => trivial) ?_
  intro K K0 hK hK0
  go_simp
  refine hK (PuC w g (.slice a n c)) _ (rowSt w7 (g + 1) 0 [.int .u64 0, .slice a7 n7 c7]) (fun _ h => h) ⟨HE.out.1, HE.out.2.2, ⟨_, _, HZ.out⟩⟩ ?_
  clear hK K hK0 K0 f0 f1 e0 e1
  generalize rowSt w7 (g + 1) 0 [.int .u64 0, .slice a7 n7 c7] = w9 at *
  refine RegJ.reads ?_
  intro K hK
  go_simp
  refine ⟨_, fun _ _ => rfl, hK _ ?_⟩
  clear hK K
  refine RegJ.nil ?_
  go_wp2_with fail
  refine bodyPost_ret (v := .tuple #[.agg #[.int .u64 0, .slice a7 n7 c7], .int .i64 0]) (by simp [results, Tryz.results47, show (asAddr (Value.pointer (some ⟨g + 1, 0, none⟩))).run Tryz.prog w9 = .ok ⟨g + 1, 0, none⟩ w9 from rfl, row2_loadVar HZ.out]) rfl ?_
  exact ⟨_, rfl, HE.out.2.1, HE.out.1⟩
end Go.Proofs.YtbckjgageofldaaGreat
namespace Go.Proofs.YtbckjgageofldaaGreat
open Go.RowKit
theorem new_parts {al fi : Nat} (h : mayS fi al = true) : newM al fi = ⟨al % 128, fi % 128, tabNone, .nil⟩ := by
 unfold newM
 rw [if_pos h, both_self, both_self]
end Go.Proofs.YtbckjgageofldaaGreat
