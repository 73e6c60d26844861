/- Chains: change: what leads from a base to another one. Condition: the chain lies there. -/
import Derived.Test.YtbckjgageofldaaGreatZLearnNil38
import Derived.Test.YtbckjgageofldaaGreatZLearnNil40
namespace Go.Proofs.YtbckjgageofldaaGreat
open Go.RowKit
theorem mac_size : (Tryz.prog.info? 38).map (·.size) = some 15 := by kernel_rfl
theorem mac_size2 (M : MacV) (P : Option Addr) : (Tryz.prog.info? 38).map (·.size) = some (macCells M P).length := mac_size
theorem bs_range {y : World} {g : Nat} {b : BsV} (h : BsAt y g b) : y.rangeAt g 0 (macCells b.M b.P) := fun j v hv => range_row h j v (by
 unfold bsCells
 rw [List.getElem?_append_left (List.getElem?_eq_some_iff.1 hv).1]
 exact hv)
theorem lm_one (m : LmV) : ∀ v ∈ lmCells m, v.oneCell' = true := by simp [lmCells, Value.oneCell']
theorem ch_start {w : World} (b c : BsV) (X Y : Tr) (hX : TreeAt w X) (hY : TreeAt w Y) : ∀ y, y = ((w.alloc (.cells (bsCells b).toArray 110)).alloc (.cells (bsCells c).toArray 110)).alloc (.cells (lmCells lm0).toArray 58) → BsAt y w.heap.size b ∧ BsAt y (w.heap.size + 1) c ∧ LmAt y (w.heap.size + 1 + 1) lm0 ∧ TreeAt y X ∧ TreeAt y Y ∧ Below w.heap.size w y := by
 rintro y rfl
 have b1 := (Below.refl w.heap.size w).alloc (Nat.le_refl _) (.cells (bsCells b).toArray 110)
 have m1 : BsAt (w.alloc (.cells (bsCells b).toArray 110)) w.heap.size b := heap_alloc_new _ _
 generalize hq1 : w.alloc (.cells (bsCells b).toArray 110) = w1 at *
 have b2 := (Below.refl w1.heap.size w1).alloc (Nat.le_refl _) (.cells (bsCells c).toArray 110)
 have m2 : BsAt (w1.alloc (.cells (bsCells c).toArray 110)) w1.heap.size c := heap_alloc_new _ _
 have s1 : w1.heap.size = w.heap.size + 1 := by rw [← hq1, World.size_alloc]
 generalize hq2 : w1.alloc (.cells (bsCells c).toArray 110) = w2 at *
 have b3 := (Below.refl w2.heap.size w2).alloc (Nat.le_refl _) (.cells (lmCells lm0).toArray 58)
 have m3 : LmAt (w2.alloc (.cells (lmCells lm0).toArray 58)) w2.heap.size lm0 := heap_alloc_new _ _
 have s2 : w2.heap.size = w1.heap.size + 1 := by rw [← hq2, World.size_alloc]
 have b23 := b2.trans (b3.mono b2.size)
 have ball := b1.trans (b23.mono b1.size)
 rw [s1] at m2
 rw [s2, s1] at m3
 exact ⟨m1.below b23, m2.below b3, m3, hX.below ball, hY.below ball, ball⟩
set_option maxRecDepth 100000 in
set_option maxHeartbeats 16000000 in
theorem lchange_any (b c : BsV) (X Y : Tr) (hb : MacAll b.M) (hc : MacAll c.M) (hall : b.M.all = c.M.all) (htl : c.t.length ≤ 3) (hbt : b.top < 18446744073709551616) (hct : c.top < 18446744073709551616) (hPX : b.P = X.ptr) (hPY : c.P = Y.ptr) (w : World) (hX : TreeAt w X) (hY : TreeAt w Y) (hsX : X.sh = b.M.sh) (hsY : Y.sh = c.M.sh) :
  Calls Tryz.prog 40 #[bsV b, bsV c] w fun e w' => e = .returned (.tuple #[lmV ⟨13, b.top, c.top, leadB c.t b.M c.M⟩, .bool true]) ∧ Below w.heap.size w w' := by
 obtain ⟨S, hS⟩ : ∃ S : ByteArray, (⟨(diffM b.M c.M).toArray⟩ : ByteArray) = S := ⟨_, rfl⟩
 obtain ⟨ca, hVA⟩ : ∃ V, macCells b.M b.P = V := ⟨_, rfl⟩
 obtain ⟨cb, hVB⟩ : ∃ V, macCells c.M c.P = V := ⟨_, rfl⟩
 have hd : ∀ y : World, TreeAt y X → TreeAt y Y → Calls Tryz.prog 76 #[.agg ca.toArray, .agg cb.toArray] y fun e w' => e = .returned (.tuple #[.string S, .int .i64 0]) ∧ Below y.heap.size y w' := fun y h1 h2 => by
  have k := diff_calls hb hc hall h1 h2 hsX hsY
  unfold macV at k
  rw [← hPX, ← hPY, hVA, hVB, hS] at k
  exact k
 have hval : strL ⟨c.t.toArray⟩ ++ (diffM b.M c.M) = leadB c.t b.M c.M := by
  unfold strL leadB
  rfl
 have hin := inside_len hb hc htl b.top c.top
 have hvl := leadB_len hb hc htl
 have Hd := Lib.hid hd
 have Hl := Lib.hid (And.intro htl (And.intro hbt hct))
 have Hval := Lib.hid hval
 have HS := Lib.hid hS
 have HV := Lib.hid (And.intro hVA hVB)
 have Hin := Lib.hid (And.intro hin hvl)
 have Hst := Lib.hid (ch_start b c X Y hX hY)
 clear hd hval hS hVA hVB hin hvl hX hY htl hbt hct hb hc hall hPX hPY hsX hsY
 obtain ⟨g, hg⟩ : ∃ g, w.heap.size = g := ⟨_, rfl⟩
 rw [hg] at Hst
 unfold bsV
 rw [bs_eta, bs_eta]
 go_enter Tryz.func40, Tryz.ntmps40
 go_upto_region 1 with fail
 simp only [← bs_eta]
 change Code.wp _ _ _ _ (((w.alloc (.cells (bsCells b).toArray 110)).alloc (.cells (bsCells c).toArray 110)).alloc (.cells (lmCells lm0).toArray 58))
 obtain ⟨w1, hw1⟩ : ∃ y, y = ((w.alloc (.cells (bsCells b).toArray 110)).alloc (.cells (bsCells c).toArray 110)).alloc (.cells (lmCells lm0).toArray 58) := ⟨_, rfl⟩
 rw [← hw1]
 obtain ⟨h1, h2, h3, h4, h5, h6⟩ := Hst.out w1 hw1
 have HI := Lib.hid (And.intro h1 (And.intro h2 h3))
 have hd := Hd.out w1 h4 h5
 have HB := Lib.hid h6
 have Hg := Lib.hid hg
 have la := bs_range h1
 have lb := bs_range h2
 rw [HV.out.1] at la
 rw [HV.out.2] at lb
 have la2 := mac_size2 b.M b.P
 have lb2 := mac_size2 c.M c.P
 rw [HV.out.1] at la2
 rw [HV.out.2] at lb2
 have Hla := Lib.hid (And.intro la la2)
 have Hlb := Lib.hid (And.intro lb lb2)
 clear la lb la2 lb2
 have Hd1 := Lib.hid hd
 clear hd h1 h2 h3 h4 h5 h6 hw1 Hst Hd hg
 go_upto_region 4 with (first
  | (with_reducible refine wpList_load_mid rfl 38 _ rfl g 0 rfl ca _ Hla.out.1 Tryz.underlying38 rfl Hla.out.2 ?_)
  | (with_reducible refine wpList_load_mid rfl 38 _ rfl (g + 1) 0 rfl cb _ Hlb.out.1 Tryz.underlying38 rfl Hlb.out.2 ?_)
  | ((with_reducible refine Hd1.out.mono ?_); rintro e w2 ⟨rfl, hb2⟩; have HB2 := Lib.hid hb2; clear hb2))
 have HI2 := Lib.hid (And.intro (HI.out.1.below HB2.out) (And.intro (HI.out.2.1.below HB2.out) (HI.out.2.2.below HB2.out)))
 have HB3 := Lib.hid (show Below g w w2 by have h6 := HB.out; have h7 := HB2.out; exact h6.trans (h7.mono (Nat.le_trans (Nat.le_of_eq Hg.out.symm) h6.size)))
 clear HI HB HB2 Hd1 Hla Hlb
 have f16 : w2.cell? ⟨g + 1, 16, none⟩ = some (.string ⟨c.t.toArray⟩) := cell_of_row _ _ _ _ _ _ HI2.out.2.1
 have hsz : (⟨c.t.toArray⟩ : ByteArray).size = c.t.length := rfl
 have hs := str_any _ [] ⟨c.t.toArray⟩ (by rw [hsz]; have := Hl.out.1; simp; omega) w2 (ReadB.nil _)
 have Hs := Lib.hid hs
 clear hs hsz
 have hlim : ¬ 9223372036854775807 < (strL ⟨c.t.toArray⟩).length + S.size := by
  have h1 := strL_len ⟨c.t.toArray⟩
  have h2 : (⟨c.t.toArray⟩ : ByteArray).size = c.t.length := rfl
  have h3 : S.size = (diffM b.M c.M).length := by rw [← HS.out]; rfl
  have h4 := Hl.out.1
  have h5 := Hin.out.2
  rw [← Hval.out, List.length_append] at h5
  omega
 go_upto_region 5 with ((with_reducible refine Hs.out.mono ?_); rintro e w3 ⟨v3, rfl, ho3, hb3⟩; have HB3b := Lib.hid hb3; have hcv := ho3.read.conv Tryz.underlying44 Tryz.underlying5 Tryz.underlying9; rw [List.nil_append] at hcv; clear ho3 hb3)
 have HI3 := Lib.hid (And.intro (HI2.out.1.below HB3b.out) (And.intro (HI2.out.2.1.below HB3b.out) (HI2.out.2.2.below HB3b.out)))
 have HB4 := Lib.hid (show Below g w w3 by have h6 := HB3.out; have h7 := HB3b.out; exact h6.trans (h7.mono (Nat.le_trans (Nat.le_of_eq Hg.out.symm) h6.size)))
 clear HI2 HB3 HB3b Hs f16 hcv hlim
 obtain ⟨V, hV⟩ : ∃ V : ByteArray, (⟨(strL ⟨c.t.toArray⟩).toArray⟩ : ByteArray) ++ S = V := ⟨_, rfl⟩
 rw [hV]
 have hV2 : V = ⟨(leadB c.t b.M c.M).toArray⟩ := by
  rw [← hV, ← HS.out, ← Hval.out]
  exact str_app _ _
 have HV2 := Lib.hid hV2
 clear hV hV2
 refine (wpIn_wide (n := 1)).1 ?_
 refine RegJ.wpIn_region_plan (F := Fence.wide) (KeptW w3) (.step 1 0 (.step 2 0 (.step 4 0 (.step 5 0 (.step 7 0 (.step 0 1 (.step 3 1 (.step 6 1 (.step 8 1 (.step 9 0 .nil)))))))))) (by kernel_rfl) (by kernel_rfl) (by kernel_rfl) (fun _ _ d _ _ h => by cases d <;> exact h) ⟨rfl, rfl, rfl, Nat.le_refl _, fun _ _ => rfl⟩ ?_
 dsimp only [RegJ.pickJ, List.getElem?_cons_zero, List.getElem?_cons_succ]
 change RegJ.Can _ _ _ _ _ _ _ _ w3.drew
 have hkd : KeptW w3 w3.drew := ⟨rfl, rfl, rfl, Nat.le_refl _, fun _ _ => rfl⟩
 have hkp := hkd
 generalize w3.drew = v1 at *
 refine RegJ.reads ?_
 intro K hK
 go_simp
 (first | refine ⟨_, fun _ _ => rfl, hK _ ?_⟩ | refine hK _ ?_)
 clear hK K
 refine RegJ.reads ?_
 intro K hK
 go_simp
 refine ⟨.int .u64 (b.top : Int), fun y hy => ?_, hK _ ?_⟩
 ·
  have f0 : y.cell? ⟨g, 15, none⟩ = some (.int .u64 (b.top : Int)) := cell_of_row _ _ _ _ _ _ (HI3.out.1.below (KeptW.bel hy))
  go_simp
 clear hK K
 refine RegJ.reads ?_
 intro K hK
 go_simp
 (first | refine ⟨_, fun _ _ => rfl, hK _ ?_⟩ | refine hK _ ?_)
 clear hK K
 refine RegJ.reads ?_
 intro K hK
 go_simp
 refine ⟨.int .u64 (c.top : Int), fun y hy => ?_, hK _ ?_⟩
 ·
  have f0 : y.cell? ⟨g + 1, 15, none⟩ = some (.int .u64 (c.top : Int)) := cell_of_row _ _ _ _ _ _ (HI3.out.2.1.below (KeptW.bel hy))
  go_simp
 clear hK K
 refine RegJ.reads ?_
 intro K hK
 go_simp
 (first | refine ⟨_, fun _ _ => rfl, hK _ ?_⟩ | refine hK _ ?_)
 clear hK K
 refine RegJ.turns (fun _ => trivial) ?_
 intro K K0 hK hK0
 go_simp
 have hbq := (Below.refl v1.heap.size v1).alloc (Nat.le_refl _) (.cells #[.int .u8 13] 5)
 have x1k : KeptW w3 (v1.alloc (.cells #[.int .u8 13] 5)) := KeptW.mono hkd hbq
 have x1p : KeptW w3 (v1.alloc (.cells #[.int .u8 13] 5)) := KeptW.mono hkp hbq
 have Hone := Lib.hid (show ReadB (v1.alloc (.cells #[.int .u8 13] 5)) (.slice (some ⟨v1.heap.size, 0, none⟩) 1 1) [13] from ReadB.one v1 13 5)
 refine hK (KeptW (v1.alloc (.cells #[.int .u8 13] 5))) _ (v1.alloc (.cells #[.int .u8 13] 5)) (fun y hy => KeptW.mono x1p (KeptW.bel hy)) (KeptW.refl _) ?_
 clear hK K hK0 K0 hbq
 generalize v1.alloc (.cells #[.int .u8 13] 5) = x1 at *
 generalize v1.heap.size = gx1 at *
 have x1r := KeptW.refl x1
 refine RegJ.turns (fun _ => trivial) ?_
 intro K K0 hK hK0
 go_simp
 refine ⟨trivial, ?_⟩
 refine (callsIn_wide.2 (num_any _ [13] b.top Hl.out.2.1 (by simp) x1 Hone.out)).mono ?_
 rintro e x2 ⟨n1, rfl, ho1, hb7⟩
 have x2k : KeptW w3 x2 := KeptW.mono x1k hb7
 have x2p : KeptW x1 x2 := KeptW.mono x1r hb7
 refine hK (KeptW x2) _ x2 (fun y hy => KeptW.mono x2p (KeptW.bel hy)) (KeptW.refl x2) ?_
 clear hK K hK0 K0 hb7
 have Ho1 := Lib.hid ho1.read
 clear ho1
 have x2r := KeptW.refl x2
 refine RegJ.turns (fun _ => trivial) ?_
 intro K K0 hK hK0
 go_simp
 refine ⟨trivial, ?_⟩
 refine (callsIn_wide.2 (num_any _ ([13] ++ numL b.top) c.top Hl.out.2.2 (by rw [List.length_append]; have := (numL_len b.top).1; simp; omega) x2 Ho1.out)).mono ?_
 rintro e x3 ⟨n2, rfl, ho2, hb7⟩
 have x3k : KeptW w3 x3 := KeptW.mono x2k hb7
 have x3p : KeptW x2 x3 := KeptW.mono x2r hb7
 refine hK (KeptW x3) _ x3 (fun y hy => KeptW.mono x3p (KeptW.bel hy)) (KeptW.refl x3) ?_
 clear hK K hK0 K0 hb7
 have Ho2 := Lib.hid ho2.read
 clear ho2
 have x3r := KeptW.refl x3
 refine RegJ.turns (fun _ => trivial) ?_
 intro K K0 hK hK0
 go_simp
 refine ⟨trivial, ?_⟩
 refine (callsIn_wide.2 (str_any _ ([13] ++ numL b.top ++ numL c.top) V (by rw [List.length_append, List.length_append, HV2.out]; have h1 := (numL_len b.top).1; have h2 := (numL_len c.top).1; have h3 := Hin.out.2; have h4 : (⟨(leadB c.t b.M c.M).toArray⟩ : ByteArray).size = (leadB c.t b.M c.M).length := rfl; rw [h4]; simp; omega) x3 Ho2.out)).mono ?_
 rintro e x4 ⟨n3, rfl, ho3, hb7⟩
 have x4k : KeptW w3 x4 := KeptW.mono x3k hb7
 have x4p : KeptW x3 x4 := KeptW.mono x3r hb7
 refine hK (KeptW x4) _ x4 (fun y hy => KeptW.mono x4p (KeptW.bel hy)) (KeptW.refl x4) ?_
 clear hK K hK0 K0 hb7
 have Ho3 := Lib.hid ho3
 clear ho3
 have x4r := KeptW.refl x4
 refine RegJ.reads ?_
 intro K hK
 go_simp
 (first | refine ⟨_, fun _ _ => rfl, hK _ ?_⟩ | refine hK _ ?_)
 clear hK K
 refine RegJ.nil ?_
 have hlen : (([13] ++ numL b.top ++ numL c.top) ++ strL V).length ≤ 43200 := by
  have e := Hin.out.1
  unfold insideB at e
  rw [HV2.out]
  exact e
 obtain ⟨a3, q3, c3, rfl⟩ := Ho3.out.read.slice
 have hq := Ho3.out.len
 have hq3 : q3 ≤ 43200 := by rw [hq]; exact hlen
 clear hlen hq
 have hle : (65536 : Int) < (q3 : Int) ↔ False := by rw [iff_false]; omega
 have hle2 := propext hle
 clear hle hq3
 have HB5 := Lib.hid (show Below g w x4 by have h6 := HB4.out; have h7 := KeptW.bel x4k; exact h6.trans (h7.mono (Nat.le_trans (Nat.le_of_eq Hg.out.symm) h6.size)))
 have HI5 := Lib.hid (And.intro (HI3.out.1.below (KeptW.bel x4k)) (And.intro (HI3.out.2.1.below (KeptW.bel x4k)) (HI3.out.2.2.below (KeptW.bel x4k))))
 clear HI3 HB4 Ho1 Ho2 Ho3 Hone
 have f15 : x4.cell? ⟨g, 15, none⟩ = some (.int .u64 (b.top : Int)) := cell_of_row _ _ _ _ _ _ HI5.out.1
 have f15c : x4.cell? ⟨g + 1, 15, none⟩ = some (.int .u64 (c.top : Int)) := cell_of_row _ _ _ _ _ _ HI5.out.2.1
 have hth := there_row (cs := lmCells lm0) HI5.out.2.2
 have hz := lmSt_at HI5.out.2.2 ⟨13, b.top, c.top, leadB c.t b.M c.M⟩
 have hbz := rowSt_below (g := g + 1 + 1) (show g ≤ g + 1 + 1 by omega) (lmCells ⟨13, b.top, c.top, leadB c.t b.M c.M⟩) 0 _ HB5.out
 have Hth := Lib.hid hth
 have HZ := Lib.hid hz
 have HBz := Lib.hid hbz
 clear hz hbz hth
 have e := HV2.out
 subst e
 go_wp2_with ((with_reducible refine wpList_store_mid rfl 58 _ _ rfl (g + 1 + 1) 0 _ rfl rfl ?_ ?_ ?_ ?_); exact Hth.out; exact lm_size; exact all_oneCell_toArray (lm_one ⟨13, b.top, c.top, leadB c.t b.M c.M⟩))
 change bodyPost _ _ _ _ _ (rowSt x4 (g + 1 + 1) 0 (lmCells ⟨13, b.top, c.top, leadB c.t b.M c.M⟩))
 generalize rowSt x4 (g + 1 + 1) 0 (lmCells ⟨13, b.top, c.top, leadB c.t b.M c.M⟩) = w9 at *
 refine bodyPost_ret (v := .tuple #[lmV ⟨13, b.top, c.top, leadB c.t b.M c.M⟩, .bool true]) (by simp [results, Tryz.results40, show (asAddr (Value.pointer (some ⟨g + 1 + 1, 0, none⟩))).run Tryz.prog w9 = .ok ⟨g + 1 + 1, 0, none⟩ w9 from rfl, lm_loadVar HZ.out]) rfl ?_
 refine ⟨rfl, ?_⟩
 rw [Hg.out]
 exact HBz.out
end Go.Proofs.YtbckjgageofldaaGreat
namespace Go.Proofs.YtbckjgageofldaaGreat
open Go.RowKit
theorem base_size2 (b : BsV) : (Tryz.prog.info? 110).map (·.size) = some (bsCells b).length := base_size
theorem lm_size2 (m : LmV) : (Tryz.prog.info? 58).map (·.size) = some (lmCells m).length := lm_size
theorem th_new (y : World) (cs0 : List Value) (t : TypeId) : (y.alloc (.cells cs0.toArray t)).there y.heap.size 0 cs0.length := there_row (heap_alloc_new _ _)
theorem at_cells {w y : World} {base p B q : Nat} {L : List BsV} (h : ShAt w base p (.slice (some ⟨B, 0, none⟩) L.length q) L) {i : Nat} {x : BsV} (hx : L[i]? = some x) (hy : Below w.heap.size w y) : y.rangeAt B (i * 17) (bsCells x) := by
 obtain ⟨B2, c2, e, hk⟩ := h.at_ hx
 cases e
 exact hk y hy
set_option maxRecDepth 100000 in
set_option maxHeartbeats 16000000 in
theorem lead_snap (base p : Nat) (v : Value) (L : List BsV) (c : BsV) (hL : L[L.length - 1]? = some c) (hsz : L.length ≤ 1000000) (n : Nat) (hn : n < c.top) (hno : ∀ x ∈ L, x.top ≠ n) (hM : MacFit c.M) (hl : c.t.length ≤ 1000000) (T : Tr) (hP : c.P = T.ptr) (hsh : T.sh = c.M.sh) (w : World) (h : ShAt w base p v L) (hat : TreeAt w T) :
  Calls Tryz.prog 9 #[.pointer (some ⟨p, 0, none⟩), .int .u64 (n : Int)] w fun e w' => e = .returned (.tuple #[lmV ⟨12, 0, c.top, textB c.t c.M⟩, .bool true]) ∧ Below w.heap.size w w' := by
 have hb1 := (Below.refl w.heap.size w).alloc (Nat.le_refl _) (.cells (lmCells lm0).toArray 58)
 have hm1 : LmAt (w.alloc (.cells (lmCells lm0).toArray 58)) w.heap.size lm0 := heap_alloc_new _ _
 have hN := newest_last base p v L c hL hsz _ (h.below hb1)
 unfold bsV at hN
 have HN := Lib.hid hN
 have hge : ¬ (c.top : Int) ≤ (n : Int) := by omega
 have Hsh := Lib.hid (h.below hb1)
 have Hn := Lib.hid (And.intro hn hsz)
 clear hN hn hsz h
 obtain ⟨g, hg⟩ : ∃ g, w.heap.size = g := ⟨_, rfl⟩
 rw [hg] at hm1
 go_enter Tryz.func9, Tryz.ntmps9
 go_upto_region 1 with fail
 change Code.wp _ _ _ _ (w.alloc (.cells (lmCells lm0).toArray 58))
 generalize w.alloc (.cells (lmCells lm0).toArray 58) = w1 at *
 have Hm0 := Lib.hid hm1
 have Hb0 := Lib.hid hb1
 have Hg := Lib.hid (Nat.le_of_eq hg)
 clear hm1 hb1 hg
 go_upto_region 2 with (first
  | ((with_reducible refine HN.out.mono ?_); rintro e w2 ⟨rfl, h2⟩; have H2 := Lib.hid h2; clear h2)
  | ((with_reducible refine wpList_store_mid rfl 110 _ _ rfl w2.heap.size 0 _ rfl rfl ?_ ?_ ?_ ?_); exact th_new w2 (bsCells bs0) 110; exact base_size; exact all_oneCell_toArray (bs_one c)))
 change Code.wp _ _ _ _ ((w2.alloc (.cells (bsCells bs0).toArray 110)).setCells w2.heap.size 0 (bsCells c))
 have hbx := box_below w2 (bsCells bs0) (bsCells c) 110
 have Hm2 := Lib.hid (show BsAt _ _ c from box_row w2 (bsCells bs0) (bsCells c) 110 rfl)
 have hb3 := H2.out.trans (hbx.mono H2.out.size)
 have Hm1 := Lib.hid (Hm0.out.below hb3)
 have Hs3 := Lib.hid (Hsh.out.below hb3)
 have Hbel := Lib.hid (Hb0.out.trans (hb3.mono Hb0.out.size))
 clear H2 HN hb3 hbx Hm0 Hb0 Hsh
 generalize (w2.alloc (.cells (bsCells bs0).toArray 110)).setCells w2.heap.size 0 (bsCells c) = w3 at *
 generalize w2.heap.size = gb at *
 have f15 : w3.cell? ⟨gb, 15, none⟩ = some (.int .u64 (c.top : Int)) := cell_of_row _ _ _ _ _ _ Hm2.out
 obtain ⟨B, q, hv, _⟩ := Hs3.out.at_ hL
 subst hv
 have Hat3 := Lib.hid (fun (i : Nat) (x : BsV) (hx : L[i]? = some x) (y : World) (hy : Below w3.heap.size w3 y) => at_cells Hs3.out hx hy)
 have HL := Lib.hid hL
 clear hL
 have f0 := Hs3.out.get
 go_upto_region 5 with fail
 go_loopw [23] (fun s23 wr => ∃ i : Nat, i ≤ L.length ∧ s23 = .int .i64 (i : Int) ∧ Below w3.heap.size w3 wr) (fun s23 _ => L.length - (intOf s23).toNat)
 case atStart => exact ⟨0, by omega, rfl, Below.refl _ _⟩
 case round =>
  obtain ⟨i, hi, rfl, hb⟩ := hrel
  have Hb := Lib.hid hb
  clear hb f0 f15
  by_cases hlt : i < L.length
  ·
   skip
   have hlt' : (i : Int) < (L.length : Int) := by omega
   have hlt0 : ¬ (i : Int) < 0 := by omega
   have hsucc := tsucc (n := i) (by have := Hn.out.2; omega)
   obtain ⟨x, hx⟩ : ∃ x, L[i]? = some x := ⟨_, List.getElem?_eq_getElem hlt⟩
   have Hx := Lib.hid (And.intro hx (Hat3.out i x hx wr Hb.out))
   clear hx
   go_upto_region 7 with (first
    | (with_reducible refine wpList_load_mid rfl 110 _ rfl B (i * 17) rfl (bsCells x) _ Hx.out.2 Tryz.underlying110 rfl (base_size2 x) ?_)
    | ((with_reducible refine wpList_store_mid rfl 110 _ _ rfl wr.heap.size 0 _ rfl rfl ?_ ?_ ?_ ?_); exact th_new wr (bsCells bs0) 110; exact base_size; exact all_oneCell_toArray (bs_one x)))
   change Code.wp _ _ _ _ ((wr.alloc (.cells (bsCells bs0).toArray 110)).setCells wr.heap.size 0 (bsCells x))
   have hbx := box_below wr (bsCells bs0) (bsCells x) 110
   have Hmx := Lib.hid (show BsAt _ _ x from box_row wr (bsCells bs0) (bsCells x) 110 rfl)
   have Hb4 := Lib.hid (Hb.out.trans (hbx.mono Hb.out.size))
   clear hbx Hb
   generalize (wr.alloc (.cells (bsCells bs0).toArray 110)).setCells wr.heap.size 0 (bsCells x) = w4 at *
   generalize wr.heap.size = gx at *
   have f15 : w4.cell? ⟨gx, 15, none⟩ = some (.int .u64 (x.top : Int)) := cell_of_row _ _ _ _ _ _ Hmx.out
   have hxn : x.top ≠ n := hno x (List.mem_of_getElem? Hx.out.1)
   have hne : ((x.top : Int) != (n : Int)) = true := by rw [bne_iff_ne]; omega
   go_wp2_with fail
   go_roundw
   case rel => exact ⟨_, _, _, _, _, ⟨i + 1, by omega, rfl, Hb4.out⟩, rfl, rfl, rfl, rfl, rfl⟩
   case measure =>
    simp only [intOf]
    omega
  ·
   have hlt' : ¬ (i : Int) < (L.length : Int) := by omega
   have Hm9 := Lib.hid (Hm1.out.below Hb.out)
   have Hm8 := Lib.hid (Hm2.out.below Hb.out)
   have Hbel9 := Lib.hid (Hbel.out.trans (Hb.out.mono Hbel.out.size))
   have HT := Lib.hid (fun (y : World) (hy : Below w.heap.size w y) => btext_any c T hM hl hP y (hat.below hy) hsh)
   unfold bsV at HT
   clear Hm1 Hm2 Hbel Hb hno Hat3 HL hi hlt
   go_upto_region 12 with fail
   refine (wpIn_wide (n := 1)).1 ?_
   refine RegK.wpIn_region_can (F := Fence.wide) (KeptW wr) [(0, 0), (1, 0), (2, 0), (3, 1), (4, 0), (5, 3), (6, 0)] (by kernel_rfl) (by kernel_rfl) (by kernel_rfl) (fun _ _ d _ _ h => by cases d <;> exact h) ⟨rfl, rfl, rfl, Nat.le_refl _, fun _ _ => rfl⟩ ?_
   dsimp only [RegK.pick, List.getElem?_cons_zero, List.getElem?_cons_succ]
   change RegK.Can _ _ _ _ _ _ _ _ wr.drew
   have hkd : KeptW wr wr.drew := ⟨rfl, rfl, rfl, Nat.le_refl _, fun _ _ => rfl⟩
   generalize wr.drew = v1 at *
   refine RegK.can_reads ?_; intro K hK; go_simp; (first | refine ⟨_, fun _ _ => rfl, hK _ ?_⟩ | refine hK _ ?_); clear hK K
   refine RegK.can_reads ?_
   intro K hK
   go_simp
   refine ⟨.int .u64 (c.top : Int), fun y hy => ?_, hK _ ?_⟩
   ·
    have f0 : y.cell? ⟨gb, 15, none⟩ = some (.int .u64 (c.top : Int)) := cell_of_row _ _ _ _ _ _ (Hm8.out.below (KeptW.bel hy))
    go_simp
   clear hK K
   refine RegK.can_reads ?_
   intro K hK
   rw [if_pos (by first | (simp [Region.wanted]; done) | (go_simp; done))]
   refine ⟨.agg (bsCells c).toArray, fun y hy => exec_load rfl rfl (row_loadAt (P := Tryz.prog) (cs := bsCells c) (Hm8.out.below (KeptW.bel hy)) Tryz.underlying110 rfl (base_size2 c)), hK _ ?_⟩
   clear hK K
   go_simp
   refine RegK.can_turns (fun _ => trivial) ?_
   intro K K0 hK hK0
   go_simp
   refine ⟨trivial, ?_⟩
   refine (callsIn_wide.2 (HT.out v1 (Hbel9.out.trans ((KeptW.bel hkd).mono Hbel9.out.size)))).mono ?_
   rintro e v2 ⟨rfl, hb7⟩
   have v2k : KeptW wr v2 := KeptW.mono hkd hb7
   refine hK _ _ v2k ?_
   clear hK K hK0 K0
   refine RegK.can_reads ?_; intro K hK; go_simp; (first | refine ⟨_, fun _ _ => rfl, hK _ ?_⟩ | refine hK _ ?_); clear hK K
   have Hm7 := Lib.hid (Hm9.out.below (KeptW.bel v2k))
   have hz := lmSt_at Hm7.out ⟨12, 0, c.top, textB c.t c.M⟩
   have hbz := rowSt_below Hg.out (lmCells ⟨12, 0, c.top, textB c.t c.M⟩) 0 _ (Hbel9.out.trans ((KeptW.bel v2k).mono Hbel9.out.size))
   have HZ := Lib.hid hz
   have Hbz := Lib.hid hbz
   clear hz hbz
   refine RegK.can_frees (fun _ => trivial) ?_
   intro K K0 hK hK0
   rw [if_pos (by simp [Region.wanted])]
   refine RegK.op_wide rfl ?_
   refine wp_store_mid 58 _ _ rfl g 0 (lmCells ⟨12, 0, c.top, textB c.t c.M⟩).toArray rfl rfl (there_row (cs := lmCells lm0) Hm7.out) lm_size (all_oneCell_toArray (lm_one _)) ?_
   rw [show (v2).setCells g 0 (lmCells ⟨12, 0, c.top, textB c.t c.M⟩).toArray.toList = rowSt v2 g 0 (lmCells ⟨12, 0, c.top, textB c.t c.M⟩) from st_eq _ _ _]
   refine hK (fun _ => True) _ _ trivial ?_
   clear hK K hK0 K0 
   generalize rowSt v2 g 0 (lmCells ⟨12, 0, c.top, textB c.t c.M⟩) = w9 at *
   refine RegK.can_reads ?_; intro K hK; go_simp; (first | refine ⟨_, fun _ _ => rfl, hK _ ?_⟩ | refine hK _ ?_); clear hK K
   refine RegK.can_nil ?_
   go_wp2_with fail
   refine bodyPost_ret (v := .tuple #[lmV ⟨12, 0, c.top, textB c.t c.M⟩, .bool true]) (by simp [results, Tryz.results9, show (asAddr (Value.pointer (some ⟨g, 0, none⟩))).run Tryz.prog w9 = .ok ⟨g, 0, none⟩ w9 from rfl, lm_loadVar HZ.out]) rfl ?_
   exact ⟨rfl, Hbz.out⟩
set_option maxRecDepth 100000 in
set_option maxHeartbeats 16000000 in
theorem lead_delta (base p : Nat) (v : Value) (L : List BsV) (c : BsV) (hL : L[L.length - 1]? = some c) (hsz : L.length ≤ 1000000) (n : Nat) (hn : n < c.top) (J : Nat) (b : BsV) (hJ : L[J]? = some b) (hbn : b.top = n) (hlo : ∀ (i : Nat) (x : BsV), i < J → L[i]? = some x → x.top ≠ n) (X Y : Tr) (hb : MacAll b.M) (hc : MacAll c.M) (hall : b.M.all = c.M.all) (htl : c.t.length ≤ 3) (hct : c.top < 18446744073709551616) (hPX : b.P = X.ptr) (hPY : c.P = Y.ptr) (hsX : X.sh = b.M.sh) (hsY : Y.sh = c.M.sh) (w : World) (h : ShAt w base p v L) (hX : TreeAt w X) (hY : TreeAt w Y) :
  Calls Tryz.prog 9 #[.pointer (some ⟨p, 0, none⟩), .int .u64 (n : Int)] w fun e w' => e = .returned (.tuple #[lmV ⟨13, n, c.top, leadB c.t b.M c.M⟩, .bool true]) ∧ Below w.heap.size w w' := by
 have hb1 := (Below.refl w.heap.size w).alloc (Nat.le_refl _) (.cells (lmCells lm0).toArray 58)
 have hm1 : LmAt (w.alloc (.cells (lmCells lm0).toArray 58)) w.heap.size lm0 := heap_alloc_new _ _
 have hN := newest_last base p v L c hL hsz _ (h.below hb1)
 unfold bsV at hN
 have HN := Lib.hid hN
 have hge : ¬ (c.top : Int) ≤ (n : Int) := by omega
 have Hsh := Lib.hid (h.below hb1)
 have Hn := Lib.hid (And.intro hn hsz)
 clear hN hn hsz h
 obtain ⟨g, hg⟩ : ∃ g, w.heap.size = g := ⟨_, rfl⟩
 rw [hg] at hm1
 go_enter Tryz.func9, Tryz.ntmps9
 go_upto_region 1 with fail
 change Code.wp _ _ _ _ (w.alloc (.cells (lmCells lm0).toArray 58))
 generalize w.alloc (.cells (lmCells lm0).toArray 58) = w1 at *
 have Hm0 := Lib.hid hm1
 have Hb0 := Lib.hid hb1
 have Hg := Lib.hid (Nat.le_of_eq hg)
 clear hm1 hb1 hg
 go_upto_region 2 with (first
  | ((with_reducible refine HN.out.mono ?_); rintro e w2 ⟨rfl, h2⟩; have H2 := Lib.hid h2; clear h2)
  | ((with_reducible refine wpList_store_mid rfl 110 _ _ rfl w2.heap.size 0 _ rfl rfl ?_ ?_ ?_ ?_); exact th_new w2 (bsCells bs0) 110; exact base_size; exact all_oneCell_toArray (bs_one c)))
 change Code.wp _ _ _ _ ((w2.alloc (.cells (bsCells bs0).toArray 110)).setCells w2.heap.size 0 (bsCells c))
 have hbx := box_below w2 (bsCells bs0) (bsCells c) 110
 have Hm2 := Lib.hid (show BsAt _ _ c from box_row w2 (bsCells bs0) (bsCells c) 110 rfl)
 have hb3 := H2.out.trans (hbx.mono H2.out.size)
 have Hm1 := Lib.hid (Hm0.out.below hb3)
 have Hs3 := Lib.hid (Hsh.out.below hb3)
 have Hbel := Lib.hid (Hb0.out.trans (hb3.mono Hb0.out.size))
 clear H2 HN hb3 hbx Hm0 Hb0 Hsh
 generalize (w2.alloc (.cells (bsCells bs0).toArray 110)).setCells w2.heap.size 0 (bsCells c) = w3 at *
 generalize w2.heap.size = gb at *
 have f15 : w3.cell? ⟨gb, 15, none⟩ = some (.int .u64 (c.top : Int)) := cell_of_row _ _ _ _ _ _ Hm2.out
 obtain ⟨B, q, hv, _⟩ := Hs3.out.at_ hL
 subst hv
 have Hat3 := Lib.hid (fun (i : Nat) (x : BsV) (hx : L[i]? = some x) (y : World) (hy : Below w3.heap.size w3 y) => at_cells Hs3.out hx hy)
 have HL := Lib.hid hL
 clear hL
 have f0 := Hs3.out.get
 go_upto_region 5 with fail
 have HCH := Lib.hid (fun (y : World) (hy : Below w.heap.size w y) => lchange_any b c X Y hb hc hall htl (by have := Hn.out.1; omega) hct hPX hPY y (hX.below hy) (hY.below hy) hsX hsY)
 unfold bsV at HCH
 have HJ := Lib.hid (And.intro hJ (And.intro hbn hlo))
 have hJL : J < L.length := (List.getElem?_eq_some_iff.1 hJ).1
 clear hJ hbn hlo hb hc hall htl hct hPX hPY hsX hsY hX hY
 go_loopw [23] (fun s23 wr => ∃ i : Nat, i ≤ J ∧ s23 = .int .i64 (i : Int) ∧ Below w3.heap.size w3 wr) (fun s23 _ => L.length - (intOf s23).toNat)
 case atStart => exact ⟨0, by omega, rfl, Below.refl _ _⟩
 case round =>
  obtain ⟨i, hi, rfl, hb⟩ := hrel
  have Hb := Lib.hid hb
  clear hb f0 f15
  have hlt : i < L.length := by omega
  skip
  have hlt' : (i : Int) < (L.length : Int) := by omega
  have hlt0 : ¬ (i : Int) < 0 := by omega
  have hsucc := tsucc (n := i) (by have := Hn.out.2; omega)
  obtain ⟨x, hx⟩ : ∃ x, L[i]? = some x := ⟨_, List.getElem?_eq_getElem hlt⟩
  have Hx := Lib.hid (And.intro hx (Hat3.out i x hx wr Hb.out))
  clear hx
  go_upto_region 7 with (first
   | (with_reducible refine wpList_load_mid rfl 110 _ rfl B (i * 17) rfl (bsCells x) _ Hx.out.2 Tryz.underlying110 rfl (base_size2 x) ?_)
   | ((with_reducible refine wpList_store_mid rfl 110 _ _ rfl wr.heap.size 0 _ rfl rfl ?_ ?_ ?_ ?_); exact th_new wr (bsCells bs0) 110; exact base_size; exact all_oneCell_toArray (bs_one x)))
  change Code.wp _ _ _ _ ((wr.alloc (.cells (bsCells bs0).toArray 110)).setCells wr.heap.size 0 (bsCells x))
  have hbx := box_below wr (bsCells bs0) (bsCells x) 110
  have Hmx := Lib.hid (show BsAt _ _ x from box_row wr (bsCells bs0) (bsCells x) 110 rfl)
  have Hb4 := Lib.hid (Hb.out.trans (hbx.mono Hb.out.size))
  clear hbx Hb
  generalize (wr.alloc (.cells (bsCells bs0).toArray 110)).setCells wr.heap.size 0 (bsCells x) = w4 at *
  generalize wr.heap.size = gx at *
  have f15 : w4.cell? ⟨gx, 15, none⟩ = some (.int .u64 (x.top : Int)) := cell_of_row _ _ _ _ _ _ Hmx.out
  by_cases hiJ : i = J
  ·
   subst hiJ
   have hxb : x = b := by have h1 := Hx.out.1; rw [HJ.out.1] at h1; exact (Option.some.inj h1).symm
   subst hxb
   have heq : ((x.top : Int) != (n : Int)) = false := by rw [bne_eq_false_iff_eq]; have := HJ.out.2.1; omega
   have Hmc := Lib.hid (Hm2.out.below Hb4.out)
   have Hm9 := Lib.hid (Hm1.out.below Hb4.out)
   have Hbel4 := Lib.hid (Hbel.out.trans (Hb4.out.mono Hbel.out.size))
   have hc4 := HCH.out w4 Hbel4.out
   have hx1 := HJ.out.2.1
   rw [hx1] at hc4
   have Hc4 := Lib.hid hc4
   have Hrx := Lib.hid (show w4.rangeAt gx 0 (bsCells x) from range_row Hmx.out)
   have Hrc := Lib.hid (show w4.rangeAt gb 0 (bsCells c) from range_row Hmc.out)
   clear hc4 hx1 HCH Hm2 Hm1 Hbel Hb4
   go_upto_region 9 with (first
    | (with_reducible refine wpList_load_mid rfl 110 _ rfl gx 0 rfl (bsCells x) _ Hrx.out Tryz.underlying110 rfl (base_size2 x) ?_)
    | (with_reducible refine wpList_load_mid rfl 110 _ rfl gb 0 rfl (bsCells c) _ Hrc.out Tryz.underlying110 rfl (base_size2 c) ?_)
    | ((with_reducible refine Hc4.out.mono ?_); rintro e w5 ⟨rfl, h5⟩; have H5 := Lib.hid h5; clear h5)
    | ((with_reducible refine wpList_store_mid rfl 58 _ _ rfl w5.heap.size 0 _ rfl rfl ?_ ?_ ?_ ?_); exact th_new w5 (lmCells lm0) 58; exact lm_size; exact all_oneCell_toArray (lm_one ⟨13, n, c.top, leadB c.t x.M c.M⟩)))
   change Code.wp _ _ _ _ ((w5.alloc (.cells (lmCells lm0).toArray 58)).setCells w5.heap.size 0 (lmCells ⟨13, n, c.top, leadB c.t x.M c.M⟩))
   have hb6 := box_below w5 (lmCells lm0) (lmCells ⟨13, n, c.top, leadB c.t x.M c.M⟩) 58
   have Hr6 := Lib.hid (show LmAt _ _ ⟨13, n, c.top, leadB c.t x.M c.M⟩ from box_row w5 (lmCells lm0) (lmCells ⟨13, n, c.top, leadB c.t x.M c.M⟩) 58 rfl)
   have hb56 := H5.out.trans (hb6.mono H5.out.size)
   have Hm6 := Lib.hid (Hm9.out.below hb56)
   have Hbel6 := Lib.hid (Hbel4.out.trans (hb56.mono Hbel4.out.size))
   clear hb6 hb56 H5 Hm9 Hbel4 Hc4 Hrx Hrc Hmx Hmc f15
   generalize (w5.alloc (.cells (lmCells lm0).toArray 58)).setCells w5.heap.size 0 (lmCells ⟨13, n, c.top, leadB c.t x.M c.M⟩) = w6 at *
   generalize w5.heap.size = g6 at *
   have Hrl := Lib.hid (show w6.rangeAt g6 0 (lmCells ⟨13, n, c.top, leadB c.t x.M c.M⟩) from range_row Hr6.out)
   have Hth := Lib.hid (show w6.there g 0 18 from there_row (cs := lmCells lm0) Hm6.out)
   have hz := lmSt_at Hm6.out ⟨13, n, c.top, leadB c.t x.M c.M⟩
   have hbz := rowSt_below Hg.out (lmCells ⟨13, n, c.top, leadB c.t x.M c.M⟩) 0 _ Hbel6.out
   have HZ := Lib.hid hz
   have Hbz := Lib.hid hbz
   clear hz hbz
   go_wp2_with (first
    | (with_reducible refine wpList_load_mid rfl 58 _ rfl g6 0 rfl (lmCells ⟨13, n, c.top, leadB c.t x.M c.M⟩) _ Hrl.out Tryz.underlying58 rfl (lm_size2 _) ?_)
    | ((with_reducible refine wpList_store_mid rfl 58 _ _ rfl g 0 _ rfl rfl ?_ ?_ ?_ ?_); exact Hth.out; exact lm_size; exact all_oneCell_toArray (lm_one ⟨13, n, c.top, leadB c.t x.M c.M⟩)))
   rw [show w6.setCells g 0 (lmCells ⟨13, n, c.top, leadB c.t x.M c.M⟩).toArray.toList = rowSt w6 g 0 (lmCells ⟨13, n, c.top, leadB c.t x.M c.M⟩) from st_eq _ _ _]
   generalize rowSt w6 g 0 (lmCells ⟨13, n, c.top, leadB c.t x.M c.M⟩) = w9 at *
   refine bodyPost_ret (v := .tuple #[lmV ⟨13, n, c.top, leadB c.t x.M c.M⟩, .bool true]) (by simp [results, Tryz.results9, show (asAddr (Value.pointer (some ⟨g, 0, none⟩))).run Tryz.prog w9 = .ok ⟨g, 0, none⟩ w9 from rfl, lm_loadVar HZ.out]) rfl ?_
   exact ⟨rfl, Hbz.out⟩
  ·
   have hxn : x.top ≠ n := HJ.out.2.2 i x (by omega) Hx.out.1
   have hne : ((x.top : Int) != (n : Int)) = true := by rw [bne_iff_ne]; omega
   go_wp2_with fail
   go_roundw
   case rel => exact ⟨_, _, _, _, _, ⟨i + 1, by omega, rfl, Hb4.out⟩, rfl, rfl, rfl, rfl, rfl⟩
   case measure =>
    simp only [intOf]
    omega
end Go.Proofs.YtbckjgageofldaaGreat
