/- Chains: law24: a run; begun. Condition: the chain lies there. -/
import Derived.Test.YtbckjgageofldaaGreatZLearnNil46
import Derived.Test.YtbckjgageofldaaGreatZLearnNil45
import Derived.Test.YtbckjgageofldaaGreatZLearnNil16
import Derived.Test.YtbckjgageofldaaGreatZLearnNil28
namespace Go.Proofs.YtbckjgageofldaaGreat
open Go.RowKit
structure RnV where
 M : MacV
 P : Option Addr
 c : Option Addr
 r : RefM
 v : Value
def rnCells (R : RnV) : List Value := macCells R.M R.P ++ ([.pointer R.c] ++ (refCells R.r ++ [.int .u64 0, R.v]))
def rnV (R : RnV) : Value := .agg (rnCells R).toArray
def RnAt (w : World) (g : Nat) (R : RnV) : Prop := w.heap[g]? = some (.cells (rnCells R).toArray 48 (0, 0))
theorem RnAt.lt {w : World} {g : Nat} {R : RnV} (h : RnAt w g R) : g < w.heap.size := (Array.getElem?_eq_some_iff.1 h).1
theorem RnAt.below {w w' : World} {g : Nat} {R : RnV} (h : RnAt w g R) (hb : Below w.heap.size w w') : RnAt w' g R := (hb.block g h.lt).trans h
theorem rn_size (R : RnV) : (Tryz.prog.info? 48).map (·.size) = some (rnCells R).length := (by kernel_rfl : (Tryz.prog.info? 48).map (·.size) = some 22)
theorem rn_loadVar {y : World} {g : Nat} {R : RnV} (h : RnAt y g R) : (loadVar 48 ⟨g, 0, none⟩).run Tryz.prog y = .ok (rnV R) y :=
 run_loadVar_row y g _ _ (rnCells R).toArray (0, 0) _ h Tryz.underlying48 rfl (rn_size R)
theorem slice_one (v : Value) {w : World} {base : Nat} {t : TypeId} {l : List UInt8} (h : OwnB w base t v l) : v.oneCell' = true := by
 obtain ⟨a, n, c, rfl⟩ := h.read.slice
 rfl
theorem rn_one (R : RnV) (h : R.v.oneCell' = true) : ∀ u ∈ rnCells R, u.oneCell' = true := by
 intro u hu
 unfold rnCells at hu
 simp only [List.mem_append, List.mem_cons, List.not_mem_nil, or_false] at hu
 rcases hu with hu | rfl | hu | rfl | rfl
 ·
  exact mac_one _ _ u hu
 ·
  rfl
 ·
  simp [refCells] at hu
  rcases hu with rfl | rfl | rfl | rfl <;> rfl
 ·
  rfl
 ·
  exact h
def rn0 : RnV := ⟨macNone, none, none, refNone, .slice none 0 0⟩
structure RunI (w : World) (base : Nat) (R : RnV) (T : Tr) (p : Nat) (cv : Value) (D : List UInt8) (z : List KeptV) : Prop where
 t : TreeAt w T
 tp : R.P = T.ptr
 ts : T.sh = R.M.sh
 cp : R.c = some ⟨p, 0, none⟩
 ch : ChAt w base p cv ⟨0, D⟩
 ref : RefAt w R.r R.M z
 rv : OwnB w base 5 R.v D
theorem RunI.below {w w' : World} {base : Nat} {R : RnV} {T : Tr} {p : Nat} {cv : Value} {D : List UInt8} {z : List KeptV} (h : RunI w base R T p cv D z) (hb : Below w.heap.size w w') : RunI w' base R T p cv D z :=
 ⟨h.t.below hb, h.tp, h.ts, h.cp, h.ch.below hb, h.ref.below hb, h.rv.below hb⟩
def runTs : List TypeId := [195, 124, 24, 204, 179, 5]
theorem RunI.sorts {w w' : World} {ts : List TypeId} {base : Nat} {R : RnV} {T : Tr} {p : Nat} {cv : Value} {D : List UInt8} {z : List KeptV} (h : RunI w base R T p cv D z) (hs : Sorts ts w.heap.size w w') (ht : ∀ t ∈ runTs, t ∉ ts) : RunI w' base R T p cv D z :=
 ⟨TreeAt.sorts hs (ht _ (by simp [runTs])) h.t, h.tp, h.ts, h.cp, h.ch.sorts hs (ht _ (by simp [runTs])) (ht _ (by simp [runTs])), h.ref.sorts hs (ht _ (by simp [runTs])) (ht _ (by simp [runTs])), ownsRow_sorts hs h.rv (ht _ (by simp [runTs]))⟩
theorem RunI.mono {w : World} {base base' : Nat} {R : RnV} {T : Tr} {p : Nat} {cv : Value} {D : List UInt8} {z : List KeptV} (h : RunI w base R T p cv D z) (hb : base' ≤ base) : RunI w base' R T p cv D z :=
 ⟨h.t, h.tp, h.ts, h.cp, ⟨h.ch.row, h.ch.own.mono hb⟩, h.ref, h.rv.mono hb⟩
theorem may_all {s all : Nat} (h : all < 256) : mayS s (bothS all all) = mayS s all := by
 have key : ∀ x : Fin 256, (255 - (x.val &&& x.val &&& 127)) &&& 127 = (255 - x.val) &&& 127 := by decide +kernel
 have k := key ⟨all, h⟩
 simp only at k
 unfold mayS withoutS bothS
 rw [Nat.and_assoc s, k, ← Nat.and_assoc s]
theorem newAll {al fi : Nat} (hal : al < 256) (hm : mayS fi al = true) : MacAll (newM al fi) := by
 refine ⟨macFit_new al fi, by rw [new_parts hm]; trivial, ?_⟩
 have h1 : newM al fi = ⟨bothS al al, bothS fi fi, tabNone, .nil⟩ := by unfold newM; rw [if_pos hm]
 rw [h1]
 refine sets_mk ?_ (both_idem _).symm (both_idem _).symm
 show mayS (bothS fi fi) (bothS al al) = true
 rw [may_both, may_all hal]
 exact hm
def BegPost (M : MacV) (w : World) (e : Ending) (w' : World) : Prop := ∃ R p cv, e = .returned (.tuple #[rnV R, .bool true]) ∧ R.M = M ∧ RunI w' w.heap.size R .nil p cv [UInt8.ofNat M.mem] [] ∧ R.r = ref0 M ∧ w.heap.size ≤ p ∧ Below w.heap.size w w'
set_option maxRecDepth 100000 in
set_option maxHeartbeats 16000000 in
theorem lbegun_is (al fi : Nat) (hal : al < 256) (hfi : fi < 256) (hm : mayS fi al = true) (w : World) :
  Calls Tryz.prog 8 #[.int .u8 (al : Int), .int .u8 (fi : Int)] w (BegPost (newM al fi) w) := by
 have hok : dirOk (UInt8.ofNat (fi % 128)) = true := by
  have q := mem_ok (newAll hal hm)
  rw [new_parts hm] at q
  exact q
 have hnew := fun y : World => new_any al fi hal hfi y
 rw [hm, new_parts hm] at hnew
 rw [new_parts hm]
 simp only [if_true] at hnew
 have hr0 : ref0 ⟨al % 128, fi % 128, tabNone, .nil⟩ = ⟨none, 0, 0, al % 128, fi % 128, none, 0, 0⟩ := rfl
 have hra := fun y : World => refAt0 ⟨al % 128, fi % 128, tabNone, .nil⟩ rfl rfl y
 obtain ⟨x1, hx1⟩ : ∃ x, al % 128 = x := ⟨_, rfl⟩
 obtain ⟨x2, hx2⟩ : ∃ x, fi % 128 = x := ⟨_, rfl⟩
 have hm1 : (al : Int) % 128 = (x1 : Int) := by omega
 have hm2 : (fi : Int) % 128 = (x2 : Int) := by omega
 have hx2l : x2 < 256 := by omega
 rw [hx1, hx2] at hnew hra hr0 ⊢
 rw [hx2] at hok
 clear hx1 hx2 hm
 obtain ⟨M, hM⟩ : ∃ M : MacV, (⟨x1, x2, tabNone, .nil⟩ : MacV) = M := ⟨_, rfl⟩
 have hMm : M.mem = x2 := by rw [← hM]
 have hMs : M.sh = .nil := by rw [← hM]
 rw [hM] at hnew hra hr0 ⊢
 unfold macV at hnew
 have Hnew := Lib.hid hnew
 have Hch := Lib.hid (fun y : World => chnew_any x2 hx2l hok y)
 have Hrn := Lib.hid (fun y : World => rnew_any x2 hx2l hok y)
 have Hmem := Lib.hid (fun y : World => (show Calls Tryz.prog 37 #[.agg (macCells M none).toArray] y fun e w' => e = .returned (.int .u8 (x2 : Int)) ∧ Below y.heap.size y w' from by rw [← hMm]; exact mmem_any M none y))
 have HM := Lib.hid (And.intro hM (And.intro hMm hMs))
 have Hra := Lib.hid (And.intro hra hr0)
 clear hnew hra hr0 hM hMm hMs hok hx2l
 have hb1 := (Below.refl w.heap.size w).alloc (Nat.le_refl _) (.cells (rnCells rn0).toArray 48)
 have hm1r : RnAt (w.alloc (.cells (rnCells rn0).toArray 48)) w.heap.size rn0 := heap_alloc_new _ _
 obtain ⟨g, hg⟩ : ∃ g, w.heap.size = g := ⟨_, rfl⟩
 rw [hg] at hm1r
 go_enter Tryz.func8, Tryz.ntmps8
 go_upto_region 1 with fail
 change Code.wp _ _ _ _ (w.alloc (.cells (rnCells rn0).toArray 48))
 generalize w.alloc (.cells (rnCells rn0).toArray 48) = w1 at *
 have Hr1 := Lib.hid hm1r
 have Hb1 := Lib.hid hb1
 have Hg := Lib.hid hg
 clear hm1r hb1 hg
 go_upto_region 4 with (first
  | ((with_reducible refine (Hnew.out _).mono ?_); rintro e w2 ⟨rfl, h2⟩; have H2 := Lib.hid h2; clear h2)
  | ((with_reducible refine wpList_store_mid rfl 38 _ _ rfl w2.heap.size 0 _ rfl rfl ?_ ?_ ?_ ?_); exact th_new w2 (macCells macNone none) 38; exact mac_size; exact all_oneCell_toArray (mac_one M none)))
 change Code.wp _ _ _ _ ((w2.alloc (.cells (macCells macNone none).toArray 38)).setCells w2.heap.size 0 (macCells M none))
 have hb3 := box_below w2 (macCells macNone none) (macCells M none) 38
 have Hm3 := Lib.hid (show MacAt _ _ M none from box_row w2 (macCells macNone none) (macCells M none) 38 rfl)
 have hb13 := H2.out.trans (hb3.mono H2.out.size)
 have Hr3 := Lib.hid (Hr1.out.below hb13)
 have Hb3 := Lib.hid (Hb1.out.trans (hb13.mono Hb1.out.size))
 have Hge3 := Lib.hid (Nat.le_trans Hb1.out.size H2.out.size)
 clear hb3 hb13 H2 Hr1 Hb1 Hnew
 generalize (w2.alloc (.cells (macCells macNone none).toArray 38)).setCells w2.heap.size 0 (macCells M none) = w3 at *
 generalize w2.heap.size = g6 at *
 have Hrl := Lib.hid (show w3.rangeAt g6 0 (macCells M none) from range_row Hm3.out)
 go_upto_region 6 with (first
  | (with_reducible refine wpList_load_mid rfl 38 _ rfl g6 0 rfl (macCells M none) _ Hrl.out Tryz.underlying38 rfl (mac_size2 _ _) ?_)
  | ((with_reducible refine (Hmem.out _).mono ?_); rintro e w4 ⟨rfl, h4⟩; have H4 := Lib.hid h4; clear h4)
  | ((with_reducible refine (Hch.out _).mono ?_); rintro e w5 ⟨pc, vc, rfl, hc5, hpc, h5⟩; have H5 := Lib.hid (And.intro hc5 (And.intro hpc h5)); clear hc5 hpc h5))
 have e43 : (#[.slice none 0 0, .int .u8 (x1 : Int), .int .u8 (x2 : Int), .slice none 0 0] : Array Value) = (refCells (ref0 M)).toArray := by rw [Hra.out.2]; rfl
 rw [e43]
 have hb56 := (Below.refl w5.heap.size w5).alloc (Nat.le_refl _) (.cells (refCells (ref0 M)).toArray 43)
 have Hf6 := Lib.hid (show RefRow (w5.alloc (.cells (refCells (ref0 M)).toArray 43)) w5.heap.size (ref0 M) from heap_alloc_new _ _)
 have hb36 := (H4.out.trans (H5.out.2.2.mono H4.out.size)).trans (hb56.mono (Nat.le_trans H4.out.size H5.out.2.2.size))
 have Hr6 := Lib.hid (Hr3.out.below hb36)
 have Hm6 := Lib.hid (Hm3.out.below hb36)
 have Hb6 := Lib.hid (Hb3.out.trans (hb36.mono Hb3.out.size))
 have Hc6 := Lib.hid (And.intro (H5.out.1.below hb56) (Nat.le_trans (Nat.le_trans Hb3.out.size H4.out.size) H5.out.2.1))
 have Hb34 := Lib.hid (Nat.le_trans Hb3.out.size H4.out.size)
 clear e43 hb56 hb36 H4 H5 Hr3 Hm3 Hb3 Hrl Hmem Hch
 generalize w5.alloc (.cells (refCells (ref0 M)).toArray 43) = w6 at *
 generalize w5.heap.size = g10 at *
 have f2 : w6.cell? ⟨g10, 2, none⟩ = some (.int .u8 (x2 : Int)) := by rw [← HM.out.2.1]; exact cell_of_row _ _ _ _ _ _ Hf6.out
 go_upto_region 7 with ((with_reducible refine (Hrn.out _).mono ?_); rintro e w7 ⟨v7, rfl, ho7, h7⟩; have H7 := Lib.hid (And.intro ho7 h7); clear ho7 h7; obtain ⟨a7, n7, c7, rfl⟩ := H7.out.1.read.slice)
 have hb78 := (Below.refl w7.heap.size w7).alloc (Nat.le_refl _) (.cells #[.int .u64 0, .slice a7 n7 c7] 46)
 have hr8 := heap_alloc_new w7 (.cells #[.int .u64 0, .slice a7 n7 c7] 46)
 have hb68 := H7.out.2.trans (hb78.mono H7.out.2.size)
 have Hr8 := Lib.hid (Hr6.out.below hb68)
 have Hm8 := Lib.hid (Hm6.out.below hb68)
 have Hf8 := Lib.hid (Hf6.out.below hb68)
 have Hb8 := Lib.hid (Hb6.out.trans (hb68.mono Hb6.out.size))
 have Hc8 := Lib.hid (And.intro (Hc6.out.1.below hb68) Hc6.out.2)
 have Ho8 := Lib.hid (H7.out.1.below hb78)
 have Hle8 := Lib.hid Hb6.out.size
 clear hb78 hb68 H7 Hr6 Hm6 Hf6 Hb6 Hc6 Hrn f2
 generalize w7.alloc (.cells #[.int .u64 0, .slice a7 n7 c7] 46) = w8 at *
 generalize w7.heap.size = g11 at *
 have k0 := cell_of_row _ _ 0 _ _ _ hr8
 have k1 := cell_of_row _ _ 1 _ _ _ hr8
 have hf8 := Hf8.out
 unfold RefRow at hf8
 rw [Hra.out.2, ref_eta] at hf8
 have j0 := cell_of_row _ _ 0 _ _ _ hf8
 have j1 := cell_of_row _ _ 1 _ _ _ hf8
 have j2 := cell_of_row _ _ 2 _ _ _ hf8
 have j3 := cell_of_row _ _ 3 _ _ _ hf8
 clear hf8 hr8
 have Hrl := Lib.hid (show w8.rangeAt g6 0 [.int .u8 (M.all : Int), .int .u8 (M.mem : Int), .int .u32 (M.tab.a.seq.toNat : Int), .int .u8 (M.tab.a.code : Int), .string M.tab.a.text, .int .u32 (M.tab.b.seq.toNat : Int), .int .u8 (M.tab.b.code : Int), .string M.tab.b.text, .int .u32 (M.tab.c.seq.toNat : Int), .int .u8 (M.tab.c.code : Int), .string M.tab.c.text, .int .u32 (M.tab.d.seq.toNat : Int), .int .u8 (M.tab.d.code : Int), .string M.tab.d.text, .pointer none] from range_row Hm8.out)
 have Hth := Lib.hid (show w8.there g 0 22 from there_row (cs := rnCells rn0) Hr8.out)
 have hone : ((⟨M, none, some ⟨pc, 0, none⟩, ref0 M, .slice a7 n7 c7⟩ : RnV).v).oneCell' = true := rfl
 have hlit : rnCells ⟨M, none, some ⟨pc, 0, none⟩, ref0 M, .slice a7 n7 c7⟩ = [.int .u8 (M.all : Int), .int .u8 (M.mem : Int), .int .u32 (M.tab.a.seq.toNat : Int), .int .u8 (M.tab.a.code : Int), .string M.tab.a.text, .int .u32 (M.tab.b.seq.toNat : Int), .int .u8 (M.tab.b.code : Int), .string M.tab.b.text, .int .u32 (M.tab.c.seq.toNat : Int), .int .u8 (M.tab.c.code : Int), .string M.tab.c.text, .int .u32 (M.tab.d.seq.toNat : Int), .int .u8 (M.tab.d.code : Int), .string M.tab.d.text, .pointer none, .pointer (some ⟨pc, 0, none⟩), .slice none 0 0, .int .u8 (x1 : Int), .int .u8 (x2 : Int), .slice none 0 0, .int .u64 0, .slice a7 n7 c7] := by
  rw [Hra.out.2]
  rfl
 have hon := rn_one _ hone
 rw [hlit] at hon
 have Hon := Lib.hid (And.intro hlit hon)
 clear hone hlit hon
 go_wp2_with (first
  | ((with_reducible refine wpList_load_mid rfl 38 _ rfl g6 0 rfl [.int .u8 (M.all : Int), .int .u8 (M.mem : Int), .int .u32 (M.tab.a.seq.toNat : Int), .int .u8 (M.tab.a.code : Int), .string M.tab.a.text, .int .u32 (M.tab.b.seq.toNat : Int), .int .u8 (M.tab.b.code : Int), .string M.tab.b.text, .int .u32 (M.tab.c.seq.toNat : Int), .int .u8 (M.tab.c.code : Int), .string M.tab.c.text, .int .u32 (M.tab.d.seq.toNat : Int), .int .u8 (M.tab.d.code : Int), .string M.tab.d.text, .pointer none] _ Hrl.out Tryz.underlying38 rfl ?_ ?_); exact mac_size)
  | ((with_reducible refine wpList_store_mid rfl 48 _ _ rfl g 0 _ rfl rfl ?_ ?_ ?_ ?_); exact Hth.out; exact rn_size rn0; exact all_oneCell_toArray Hon.out.2))
 rw [st_eq, ← Hon.out.1]
 have hz : RnAt (rowSt w8 g 0 (rnCells ⟨M, none, some ⟨pc, 0, none⟩, ref0 M, .slice a7 n7 c7⟩)) g ⟨M, none, some ⟨pc, 0, none⟩, ref0 M, .slice a7 n7 c7⟩ := rowSt_row _ [] (rnCells rn0) w8 Hr8.out rfl
 have hbz := rowSt_below (Nat.le_of_eq Hg.out) (rnCells ⟨M, none, some ⟨pc, 0, none⟩, ref0 M, .slice a7 n7 c7⟩) 0 _ Hb8.out
 have hri : RunI w8 w.heap.size ⟨M, none, some ⟨pc, 0, none⟩, ref0 M, .slice a7 n7 c7⟩ .nil pc vc [UInt8.ofNat x2] [] :=
  ⟨trivial, rfl, HM.out.2.2.symm, rfl, ⟨Hc8.out.1.row, Hc8.out.1.own.mono Hb34.out⟩, Hra.out.1 w8, Ho8.out.mono Hle8.out⟩
 have hri9 := hri.sorts (sorts_row (ts := [48]) Hr8.out (by simp) (rnCells ⟨M, none, some ⟨pc, 0, none⟩, ref0 M, .slice a7 n7 c7⟩) 0) (by decide)
 generalize rowSt w8 g 0 (rnCells ⟨M, none, some ⟨pc, 0, none⟩, ref0 M, .slice a7 n7 c7⟩) = w9 at *
 refine bodyPost_ret (v := .tuple #[rnV ⟨M, none, some ⟨pc, 0, none⟩, ref0 M, .slice a7 n7 c7⟩, .bool true]) (by simp [results, Tryz.results8, show (asAddr (Value.pointer (some ⟨g, 0, none⟩))).run Tryz.prog w9 = .ok ⟨g, 0, none⟩ w9 from rfl, rn_loadVar hz]) rfl ?_
 exact ⟨_, pc, vc, rfl, rfl, by rw [HM.out.2.1]; exact hri9, rfl, Hc8.out.2, hbz⟩
end Go.Proofs.YtbckjgageofldaaGreat
