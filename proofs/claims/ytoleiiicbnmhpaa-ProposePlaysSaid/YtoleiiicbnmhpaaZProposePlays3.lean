/- Desks: Voted. Condition: the desk lies there. -/
import Derived.StillTailTactics
import Derived.Test.YtoleiiicbnmhpaaZProposePlays2
import Derived.Test.YtoleiiicbnmhpaaZProposePlays1
import Derived.Test.YtoleiiicbnmhpaaZProposePlays0
import Derived.Sort.MapsRangeIn
import Derived.RangeFuncStops
import Derived.RangeFuncFrom
import Derived.RangeFuncKeeps
import Derived.Laws.EntriesVeiled
import Derived.Shelf.AbstractIn
import Derived.OwnWalkIn
import Derived.RangeFuncNested
import Derived.Laws.AppendOwn
import Derived.Laws.AppendOwnNone
import Derived.OwnWalk
namespace Go.Proofs.Ytoleiiicbnmhpaa
open Go.RowKit
open Go.Maps (Keyed)
def itCells (s : Nat) (x : ByteArray) : List Value := [.int .u64 (s : Int), .string x]
def itV (s : Nat) (x : ByteArray) : Value := .agg (itCells s x).toArray
theorem it_size (s : Nat) (x : ByteArray) : (Try.prog.info? 34).map (·.size) = some (itCells s x).length := (by kernel_rfl : (Try.prog.info? 34).map (·.size) = some 2)
theorem it_one (s : Nat) (x : ByteArray) : ∀ u ∈ itCells s x, u.oneCell' = true := by simp [itCells, Value.oneCell']
def ItAt (w : World) (g s : Nat) (x : ByteArray) : Prop := w.heap[g]? = some (.cells (itCells s x).toArray 34 (0, 0))
theorem ItAt.below {w w' : World} {g s : Nat} {x : ByteArray} (h : ItAt w g s x) (hb : Below w.heap.size w w') : ItAt w' g s x := (hb.block g (Array.getElem?_eq_some_iff.1 h).1).trans h
theorem it_loadVar {y : World} {g s : Nat} {x : ByteArray} (h : ItAt y g s x) : (loadVar 34 ⟨g, 0, none⟩).run Try.prog y = .ok (itV s x) y :=
  run_loadVar_mid y g 0 34 (itCells s x) _ (range_row h) Try.underlying34 rfl (it_size s x)
def OpAt (w : World) (g s : Nat) (r : OpR) : Prop := w.heap[g]? = some (.cells (opCells s r).toArray 63 (0, 0))
theorem OpAt.below {w w' : World} {g s : Nat} {r : OpR} (h : OpAt w g s r) (hb : Below w.heap.size w w') : OpAt w' g s r := (hb.block g (Array.getElem?_eq_some_iff.1 h).1).trans h
theorem th_new (y : World) (cs0 : List Value) (t : TypeId) : (y.alloc (.cells cs0.toArray t)).there y.heap.size 0 cs0.length := there_row (heap_alloc_new _ _)
theorem pure_bel {P : Program} {f : FuncId} {a : Array Value} {w : World} {v : Ending} (h : Calls P f a w fun e w' => e = v ∧ w = w') : Calls P f a w fun e w' => e = v ∧ Below w.heap.size w w' := h.mono (by rintro e w' ⟨rfl, rfl⟩; exact ⟨rfl, Below.refl _ _⟩)
set_option maxRecDepth 100000 in
set_option maxHeartbeats 4000000 in
theorem voted_none (p g n last : Nat) (Dm : Nat → Option OpR) (nd s : Nat) (hD : Dm s = none) (hs : s < 18446744073709551616) (w : World) (h : DeskAt w p g n Dm last) :
    Calls Try.prog 13 #[.pointer (some ⟨p, 0, none⟩), .int .u8 (nd : Int), .int .u64 (s : Int)] w fun e w' => e = .returned (.tuple #[itV 0 ByteArray.empty, .bool false]) ∧ Below w.heap.size w w' := by
  have H := Lib.hid h
  have hk := key_ku hs
  clear h
  have hb := (Below.refl w.heap.size w).alloc (Nat.le_refl _) (.cells (itCells 0 ByteArray.empty).toArray 34)
  have hi : ItAt (w.alloc (.cells (itCells 0 ByteArray.empty).toArray 34)) w.heap.size 0 ByteArray.empty := heap_alloc_new _ _
  have Hb := Lib.hid hb
  have Hi := Lib.hid hi
  have Hd := Lib.hid (H.out.below hb)
  have hMo : mpOf Dm (ku s) = none := by rw [mpOf_at, hD]; rfl
  clear hb hi
  go_enter Try.func13, Try.ntmps13
  go_upto_region 1 with fail
  change Code.wp _ _ _ _ (w.alloc (.cells (itCells 0 ByteArray.empty).toArray 34))
  generalize w.alloc (.cells (itCells 0 ByteArray.empty).toArray 34) = w1 at *
  obtain ⟨g0, hg0⟩ : ∃ g0, w.heap.size = g0 := ⟨_, rfl⟩
  rw [hg0] at Hi
  obtain ⟨c0, c1⟩ := Hd.out.cells
  clear c1
  go_upto_region 4 with (first
    | (at_lookup; refine wpList_lookok_mp rfl _ _ 65 63 rfl lawU Try.underlying65 op_zero rfl Hd.out.mp _ (ku s) rfl hk ?_)
    | ((with_reducible refine wpList_store_mid rfl 63 _ _ rfl w1.heap.size 0 _ rfl rfl ?_ ?_ ?_ ?_); exact th_new w1 (opCells 0 op0) 63; exact op_size 0 op0; exact all_oneCell_toArray (op_one 0 op0)))
  change Code.wp _ _ _ _ ((w1.alloc (.cells (opCells 0 op0).toArray 63)).setCells w1.heap.size 0 (opCells 0 op0))
  have hbx := box_below w1 (opCells 0 op0) (opCells 0 op0) 63
  have HX := Lib.hid (show OpAt _ _ 0 op0 from box_row w1 (opCells 0 op0) (opCells 0 op0) 63 rfl)
  have HIt := Lib.hid (Hi.out.below hbx)
  have Hd2 := Lib.hid (Hd.out.below hbx)
  have Hb2 := Lib.hid (Hb.out.trans (hbx.mono Hb.out.size))
  have Hng := Lib.hid (show g0 < w1.heap.size from (Array.getElem?_eq_some_iff.1 Hi.out).1)
  have Hnd := Lib.hid (And.intro Hd.out.lt Hd.out.mp.lt)
  clear hbx Hi Hd Hb c0
  generalize (w1.alloc (.cells (opCells 0 op0).toArray 63)).setCells w1.heap.size 0 (opCells 0 op0) = w2 at *
  generalize w1.heap.size = gx at *
  go_wp2_with ((with_reducible refine wpList_store_mid rfl 34 _ _ rfl g0 0 _ rfl rfl ?_ ?_ ?_ ?_); exact there_row (cs := itCells 0 ByteArray.empty) HIt.out; exact it_size 0 ByteArray.empty; exact all_oneCell_toArray (it_one 0 ByteArray.empty))
  change bodyPost _ _ _ _ _ (World.setCells _ g0 0 (itCells 0 ByteArray.empty))
  have HZ := Lib.hid (show ItAt (rowSt w2 g0 0 (itCells 0 ByteArray.empty)) g0 0 ByteArray.empty from rowSt_row (itCells 0 ByteArray.empty) [] (itCells 0 ByteArray.empty) w2 (HIt.out) rfl)
  have hbz := rowSt_below (g := g0) (Nat.le_of_eq hg0) (itCells 0 ByteArray.empty) 0 _ (Hb2.out)
  have Hoz := Lib.hid (fun (k : Nat) (hk : k ≠ g0) => rowSt_other hk (itCells 0 ByteArray.empty) 0 w2)
  have Hbz := Lib.hid hbz
  clear hbz
  rw [st_eq]
  generalize rowSt w2 g0 0 (itCells 0 ByteArray.empty) = w9 at *
  refine bodyPost_ret (v := .tuple #[itV 0 ByteArray.empty, .bool false]) (by simp [results, Try.results13, show (asAddr (Value.pointer (some ⟨g0, 0, none⟩))).run Try.prog w9 = .ok ⟨g0, 0, none⟩ w9 from rfl, it_loadVar HZ.out]) rfl ?_
  exact ⟨rfl, Hbz.out⟩
set_option maxRecDepth 100000 in
set_option maxHeartbeats 4000000 in
theorem voted_not (p g n last : Nat) (Dm : Nat → Option OpR) (nd s : Nat) (r : OpR) (hD : Dm s = some r) (hc : r.c < 256) (hn : nd < 256) (hh : hasS r.c nd = false) (hs : s < 18446744073709551616) (w : World) (h : DeskAt w p g n Dm last) :
    Calls Try.prog 13 #[.pointer (some ⟨p, 0, none⟩), .int .u8 (nd : Int), .int .u64 (s : Int)] w fun e w' => e = .returned (.tuple #[itV 0 ByteArray.empty, .bool false]) ∧ Below w.heap.size w w' := by
  have hha := fun y : World => has_any r.c nd hc hn y
  rw [hh] at hha
  have Hha := Lib.hid hha
  clear hha
  have H := Lib.hid h
  have hk := key_ku hs
  clear h
  have hb := (Below.refl w.heap.size w).alloc (Nat.le_refl _) (.cells (itCells 0 ByteArray.empty).toArray 34)
  have hi : ItAt (w.alloc (.cells (itCells 0 ByteArray.empty).toArray 34)) w.heap.size 0 ByteArray.empty := heap_alloc_new _ _
  have Hb := Lib.hid hb
  have Hi := Lib.hid hi
  have Hd := Lib.hid (H.out.below hb)
  have hMo : mpOf Dm (ku s) = some (opV s r) := by rw [mpOf_at, hD]; rfl
  clear hb hi
  go_enter Try.func13, Try.ntmps13
  go_upto_region 1 with fail
  change Code.wp _ _ _ _ (w.alloc (.cells (itCells 0 ByteArray.empty).toArray 34))
  generalize w.alloc (.cells (itCells 0 ByteArray.empty).toArray 34) = w1 at *
  obtain ⟨g0, hg0⟩ : ∃ g0, w.heap.size = g0 := ⟨_, rfl⟩
  rw [hg0] at Hi
  obtain ⟨c0, c1⟩ := Hd.out.cells
  clear c1
  go_upto_region 4 with (first
    | (at_lookup; refine wpList_lookok_mp rfl _ _ 65 63 rfl lawU Try.underlying65 op_zero rfl Hd.out.mp _ (ku s) rfl hk ?_)
    | ((with_reducible refine wpList_store_mid rfl 63 _ _ rfl w1.heap.size 0 _ rfl rfl ?_ ?_ ?_ ?_); exact th_new w1 (opCells 0 op0) 63; exact op_size s r; exact all_oneCell_toArray (op_one s r)))
  change Code.wp _ _ _ _ ((w1.alloc (.cells (opCells 0 op0).toArray 63)).setCells w1.heap.size 0 (opCells s r))
  have hbx := box_below w1 (opCells 0 op0) (opCells s r) 63
  have HX := Lib.hid (show OpAt _ _ s r from box_row w1 (opCells 0 op0) (opCells s r) 63 rfl)
  have HIt := Lib.hid (Hi.out.below hbx)
  have Hd2 := Lib.hid (Hd.out.below hbx)
  have Hb2 := Lib.hid (Hb.out.trans (hbx.mono Hb.out.size))
  have Hng := Lib.hid (show g0 < w1.heap.size from (Array.getElem?_eq_some_iff.1 Hi.out).1)
  have Hnd := Lib.hid (And.intro Hd.out.lt Hd.out.mp.lt)
  clear hbx Hi Hd Hb c0
  generalize (w1.alloc (.cells (opCells 0 op0).toArray 63)).setCells w1.heap.size 0 (opCells s r) = w2 at *
  generalize w1.heap.size = gx at *
  have f2 : w2.cell? ⟨gx, 2, none⟩ = some (.int .u8 (r.c : Int)) := cell_of_row _ _ _ _ _ _ HX.out
  go_upto_region 5 with ((with_reducible refine (Hha.out _).mono ?_); rintro e w3 ⟨rfl, h3⟩; have H3 := Lib.hid h3; clear h3)
  have HIt := Lib.hid (HIt.out.below H3.out)
  go_wp2_with ((with_reducible refine wpList_store_mid rfl 34 _ _ rfl g0 0 _ rfl rfl ?_ ?_ ?_ ?_); exact there_row (cs := itCells 0 ByteArray.empty) HIt.out; exact it_size 0 ByteArray.empty; exact all_oneCell_toArray (it_one 0 ByteArray.empty))
  change bodyPost _ _ _ _ _ (World.setCells _ g0 0 (itCells 0 ByteArray.empty))
  have HZ := Lib.hid (show ItAt (rowSt w3 g0 0 (itCells 0 ByteArray.empty)) g0 0 ByteArray.empty from rowSt_row (itCells 0 ByteArray.empty) [] (itCells 0 ByteArray.empty) w3 (HIt.out) rfl)
  have hbz := rowSt_below (g := g0) (Nat.le_of_eq hg0) (itCells 0 ByteArray.empty) 0 _ (Hb2.out.trans (H3.out.mono Hb2.out.size))
  have Hoz := Lib.hid (fun (k : Nat) (hk : k ≠ g0) => rowSt_other hk (itCells 0 ByteArray.empty) 0 w3)
  have Hbz := Lib.hid hbz
  clear hbz
  rw [st_eq]
  generalize rowSt w3 g0 0 (itCells 0 ByteArray.empty) = w9 at *
  refine bodyPost_ret (v := .tuple #[itV 0 ByteArray.empty, .bool false]) (by simp [results, Try.results13, show (asAddr (Value.pointer (some ⟨g0, 0, none⟩))).run Try.prog w9 = .ok ⟨g0, 0, none⟩ w9 from rfl, it_loadVar HZ.out]) rfl ?_
  exact ⟨rfl, Hbz.out⟩
set_option maxRecDepth 100000 in
set_option maxHeartbeats 4000000 in
theorem voted_more (p g n last : Nat) (Dm : Nat → Option OpR) (nd s : Nat) (r : OpR) (hD : Dm s = some r) (hc : r.c < 256) (hw : r.who < 256) (hn : nd < 256) (hn5 : n < 100000) (hh : hasS r.c nd = true) (hm : majorS r.c (withS r.who (ofS nd)) = false) (hs : s < 18446744073709551616) (w : World) (h : DeskAt w p g n Dm last) :
    Calls Try.prog 13 #[.pointer (some ⟨p, 0, none⟩), .int .u8 (nd : Int), .int .u64 (s : Int)] w fun e w' => e = .returned (.tuple #[itV 0 ByteArray.empty, .bool false]) ∧ DeskAt w' p g (n + 1) (updD Dm s (some { r with who := withS r.who (ofS nd) })) last ∧ ButTwo p g w w' := by
  have hwho := of_lt nd
  have hha := fun y : World => has_any r.c nd hc hn y
  rw [hh] at hha
  have Hha := Lib.hid hha
  have hw8 : withS r.who (ofS nd) < 256 := and_byte (Nat.or_lt_two_pow (n := 8) hw (by omega))
  have Hof := Lib.hid (fun (y : World) (g o c : Nat) (h : y.cell? ⟨g, o, none⟩ = some (.int .u8 (nd : Int))) => pure_bel (of_any nd hn g o c y h))
  have Hwi := Lib.hid (fun y : World => pure_bel (with_any r.who (ofS nd) hw (by omega) y))
  have hma := fun y : World => pure_bel (major_any r.c (withS r.who (ofS nd)) hc hw8 y)
  rw [hm] at hma
  have Hma := Lib.hid hma
  clear hha hma hw8 hwho
  obtain ⟨w8, hw8⟩ : ∃ q, withS r.who (ofS nd) = q := ⟨_, rfl⟩
  rw [hw8] at Hwi Hma ⊢
  clear hw8
  have H := Lib.hid h
  have hk := key_ku hs
  clear h
  have hb := (Below.refl w.heap.size w).alloc (Nat.le_refl _) (.cells (itCells 0 ByteArray.empty).toArray 34)
  have hi : ItAt (w.alloc (.cells (itCells 0 ByteArray.empty).toArray 34)) w.heap.size 0 ByteArray.empty := heap_alloc_new _ _
  have Hb := Lib.hid hb
  have Hi := Lib.hid hi
  have Hd := Lib.hid (H.out.below hb)
  have hMo : mpOf Dm (ku s) = some (opV s r) := by rw [mpOf_at, hD]; rfl
  clear hb hi
  go_enter Try.func13, Try.ntmps13
  go_upto_region 1 with fail
  change Code.wp _ _ _ _ (w.alloc (.cells (itCells 0 ByteArray.empty).toArray 34))
  generalize w.alloc (.cells (itCells 0 ByteArray.empty).toArray 34) = w1 at *
  obtain ⟨g0, hg0⟩ : ∃ g0, w.heap.size = g0 := ⟨_, rfl⟩
  rw [hg0] at Hi
  obtain ⟨c0, c1⟩ := Hd.out.cells
  clear c1
  go_upto_region 4 with (first
    | (at_lookup; refine wpList_lookok_mp rfl _ _ 65 63 rfl lawU Try.underlying65 op_zero rfl Hd.out.mp _ (ku s) rfl hk ?_)
    | ((with_reducible refine wpList_store_mid rfl 63 _ _ rfl w1.heap.size 0 _ rfl rfl ?_ ?_ ?_ ?_); exact th_new w1 (opCells 0 op0) 63; exact op_size s r; exact all_oneCell_toArray (op_one s r)))
  change Code.wp _ _ _ _ ((w1.alloc (.cells (opCells 0 op0).toArray 63)).setCells w1.heap.size 0 (opCells s r))
  have hbx := box_below w1 (opCells 0 op0) (opCells s r) 63
  have HX := Lib.hid (show OpAt _ _ s r from box_row w1 (opCells 0 op0) (opCells s r) 63 rfl)
  have HIt := Lib.hid (Hi.out.below hbx)
  have Hd2 := Lib.hid (Hd.out.below hbx)
  have Hb2 := Lib.hid (Hb.out.trans (hbx.mono Hb.out.size))
  have Hng := Lib.hid (show g0 < w1.heap.size from (Array.getElem?_eq_some_iff.1 Hi.out).1)
  have Hnd := Lib.hid (And.intro Hd.out.lt Hd.out.mp.lt)
  clear hbx Hi Hd Hb c0
  generalize (w1.alloc (.cells (opCells 0 op0).toArray 63)).setCells w1.heap.size 0 (opCells s r) = w2 at *
  generalize w1.heap.size = gx at *
  have f2 : w2.cell? ⟨gx, 2, none⟩ = some (.int .u8 (r.c : Int)) := cell_of_row _ _ _ _ _ _ HX.out
  go_upto_region 6 with ((with_reducible refine (Hha.out _).mono ?_); rintro e w3 ⟨rfl, h3⟩; have H3 := Lib.hid h3; clear h3)
  have HIt3 := Lib.hid (HIt.out.below H3.out)
  have HX3 := Lib.hid (HX.out.below H3.out)
  have Hd3 := Lib.hid (Hd2.out.below H3.out)
  have Hb3 := Lib.hid (Hb2.out.trans (H3.out.mono Hb2.out.size))
  clear f2 HIt HX Hd2 Hb2 H3 Hha
  refine (wpIn_wide (n := 1)).1 ?_
  refine RegK.wpIn_region_can (F := Fence.wide) (KeptW w3) [(0, 0), (1, 0), (2, 0), (3, 1), (4, 1), (5, 1), (6, 0), (7, 3)] (by kernel_rfl) (by kernel_rfl) (by kernel_rfl) (fun _ _ d _ _ h => by cases d <;> exact h) ⟨rfl, rfl, rfl, Nat.le_refl _, fun _ _ => rfl⟩ ?_
  dsimp only [RegK.pick, List.getElem?_cons_zero, List.getElem?_cons_succ]
  change RegK.Can _ _ _ _ _ _ _ _ w3.drew
  have hkd : KeptW w3 w3.drew := ⟨rfl, rfl, rfl, Nat.le_refl _, fun _ _ => rfl⟩
  generalize w3.drew = v1 at *
  refine RegK.can_reads ?_; intro K hK; go_simp; (first | refine ⟨_, fun _ _ => rfl, hK _ ?_⟩ | refine hK _ ?_); clear hK K
  refine RegK.can_reads ?_
  intro K hK
  go_simp
  refine ⟨.int .u8 (r.who : Int), fun y hy => ?_, hK _ ?_⟩
  · have f3 : y.cell? ⟨gx, 3, none⟩ = some (.int .u8 (r.who : Int)) := cell_of_row _ _ _ _ _ _ (HX3.out.below (KeptW.bel hy))
    go_simp
  clear hK K
  refine RegK.can_reads ?_; intro K hK; go_simp; (first | refine ⟨_, fun _ _ => rfl, hK _ ?_⟩ | refine hK _ ?_); clear hK K
  refine RegK.can_turns (fun _ => trivial) ?_
  intro K K0 hK hK0
  go_simp
  have hb6 := (Below.refl v1.heap.size v1).alloc (Nat.le_refl _) (.cells #[.int .u8 (nd : Int)] 5)
  have hc6 : (v1.alloc (.cells #[.int .u8 (nd : Int)] 5)).cell? ⟨v1.heap.size, 0, none⟩ = some (.int .u8 (nd : Int)) := cell_of_row _ _ _ _ _ _ (heap_alloc_new _ _)
  have wbk : KeptW w3 (v1.alloc (.cells #[.int .u8 (nd : Int)] 5)) := KeptW.mono hkd hb6
  refine hK _ _ wbk ?_
  clear hK K hK0 K0
  generalize v1.alloc (.cells #[.int .u8 (nd : Int)] 5) = wb at *
  generalize v1.heap.size = g5 at *
  refine RegK.can_turns (fun _ => trivial) ?_
  intro K K0 hK hK0
  go_simp
  refine ⟨trivial, ?_⟩
  refine (callsIn_wide.2 (Hof.out wb g5 0 1 hc6)).mono ?_
  rintro e v2 ⟨rfl, hb7⟩
  have v2k : KeptW w3 v2 := KeptW.mono wbk hb7
  refine hK _ _ v2k ?_
  clear hK K hK0 K0
  refine RegK.can_turns (fun _ => trivial) ?_
  intro K K0 hK hK0
  go_simp
  refine ⟨trivial, ?_⟩
  refine (callsIn_wide.2 (Hwi.out v2)).mono ?_
  rintro e v3 ⟨rfl, hb7⟩
  have v3k : KeptW w3 v3 := KeptW.mono v2k hb7
  refine hK _ _ v3k ?_
  clear hK K hK0 K0
  refine RegK.can_reads ?_; intro K hK; go_simp; (first | refine ⟨_, fun _ _ => rfl, hK _ ?_⟩ | refine hK _ ?_); clear hK K
  have HX7 := Lib.hid (HX3.out.below (KeptW.bel v3k))
  have t3 := thawed_row 3 HX7.out
  have e3 : (v3).cell? ⟨gx, 3, none⟩ = some (.int .u8 (r.who : Int)) := cell_of_row _ _ _ _ _ _ HX7.out
  refine RegK.can_frees (fun _ => trivial) ?_
  intro K K0 hK hK0
  go_simp
  refine hK (fun _ => True) _ _ trivial ?_
  clear hK K hK0 K0
  refine RegK.can_nil ?_
  have HX4 := Lib.hid (show OpAt (v3.setCell ⟨gx, 3, none⟩ (.int .u8 (w8 : Int))) gx s { r with who := w8 } from by
    unfold OpAt
    rw [heap_setCell_same _ _ _ _ _ _ HX7.out]
    rfl)
  have hoth : ∀ k, k ≠ gx → (v3.setCell ⟨gx, 3, none⟩ (.int .u8 (w8 : Int))).heap[k]? = v3.heap[k]? := fun k hk => Below.heap_setCell _ _ _ _ (fun e => hk (by exact e))
  have hb4 := Hb3.out.trans ((KeptW.bel v3k).mono Hb3.out.size)
  have HIt4 := Lib.hid (show ItAt (v3.setCell ⟨gx, 3, none⟩ (.int .u8 (w8 : Int))) g0 0 ByteArray.empty from (hoth g0 (Nat.ne_of_lt Hng.out)).trans (HIt3.out.below (KeptW.bel v3k)))
  have hd4 := Hd3.out.below (KeptW.bel v3k)
  have Hd4 := Lib.hid (hd4.stay (hoth p (Nat.ne_of_lt Hnd.out.1)) (hoth g (Nat.ne_of_lt Hnd.out.2)))
  have Hb4 := Lib.hid (show Below w.heap.size w (v3.setCell ⟨gx, 3, none⟩ (.int .u8 (w8 : Int))) from hb4.trans ⟨rfl, rfl, rfl, by simp, fun k hk => hoth k (by have := Hng.out; omega)⟩)
  clear hoth hb4 hd4 HX7 t3 e3 hkd wbk hb6 hc6 HIt3 HX3 Hd3 Hb3 v3k
  generalize v3.setCell ⟨gx, 3, none⟩ (.int .u8 (w8 : Int)) = w4 at *
  have f2 : w4.cell? ⟨gx, 2, none⟩ = some (.int .u8 (r.c : Int)) := cell_of_row _ _ _ _ _ _ HX4.out
  have f3 : w4.cell? ⟨gx, 3, none⟩ = some (.int .u8 (w8 : Int)) := cell_of_row _ _ _ _ _ _ HX4.out
  go_upto_region 8 with ((with_reducible refine (Hma.out _).mono ?_); rintro e w5 ⟨rfl, h5⟩; have H5 := Lib.hid h5; clear h5)
  have HX5 := Lib.hid (HX4.out.below H5.out)
  have HIt5 := Lib.hid (HIt4.out.below H5.out)
  have Hd5 := Lib.hid (Hd4.out.below H5.out)
  have Hb5 := Lib.hid (Hb4.out.trans (H5.out.mono Hb4.out.size))
  obtain ⟨c0, c1⟩ := Hd5.out.cells
  clear f2 f3 HX4 HIt4 Hd4 Hb4 H5 c1
  have f0 : w5.cell? ⟨gx, 0, none⟩ = some (.int .u64 (s : Int)) := cell_of_row _ _ _ _ _ _ HX5.out
  have f1 : w5.cell? ⟨gx, 1, none⟩ = some (.string r.x) := cell_of_row _ _ _ _ _ _ HX5.out
  have f2 : w5.cell? ⟨gx, 2, none⟩ = some (.int .u8 (r.c : Int)) := cell_of_row _ _ _ _ _ _ HX5.out
  have f3 : w5.cell? ⟨gx, 3, none⟩ = some (.int .u8 (w8 : Int)) := cell_of_row _ _ _ _ _ _ HX5.out
  go_still_tail 6, (by kernel_rfl)
  change wpList _ _ _ _ _ w5.drew
  have Hm5 := Lib.hid (show MpAt Try.prog 31 w5.drew g n (mpOf Dm) from Hd5.out.mp.below ⟨rfl, rfl, rfl, Nat.le_refl _, fun _ _ => rfl⟩)
  have Hw5 := Lib.hid (show Below w5.heap.size w5 w5.drew from ⟨rfl, rfl, rfl, Nat.le_refl _, fun _ _ => rfl⟩)
  generalize w5.drew = w6 at *
  refine wpList_store_mp rfl _ _ _ 65 63 rfl lawU Try.underlying65 rfl Hm5.out (by unfold maxLen; omega) _ (opV s { r with who := w8 }) (ku s) rfl rfl hk ?_
  intro w7 hm7 ht7
  have H7 := Lib.hid (And.intro hm7 ht7)
  clear hm7 ht7 c0 f0 f1 f2 f3
  have Hp := Lib.hid (And.intro H.out.lt (And.intro H.out.mp.lt H.out.ne))
  have HIt7 := Lib.hid (show ItAt w7 g0 0 ByteArray.empty from (turned_block H7.out.2 (show g0 ≠ g by have := Hp.out.2.1; omega)).trans (HIt5.out.below Hw5.out))
  have Hr7 := Lib.hid ((turned_block H7.out.2 Hp.out.2.2).trans ((Hw5.out.block p Hd5.out.lt).trans Hd5.out.row))
  have Ht7 := Lib.hid (((two_of (p := p) (g := g) (Hb5.out.trans (Hw5.out.mono Hb5.out.size)))).trans (two_turned H7.out.2))
  have HD7 := Lib.hid H7.out.1
  clear H7 HIt5 Hd5 Hb5 Hw5 Hm5
  go_wp2_with ((with_reducible refine wpList_store_mid rfl 34 _ _ rfl g0 0 _ rfl rfl ?_ ?_ ?_ ?_); exact there_row (cs := itCells 0 ByteArray.empty) HIt7.out; exact it_size 0 ByteArray.empty; exact all_oneCell_toArray (it_one 0 ByteArray.empty))
  change bodyPost _ _ _ _ _ (World.setCells _ g0 0 (itCells 0 ByteArray.empty))
  have HZ := Lib.hid (show ItAt (rowSt w7 g0 0 (itCells 0 ByteArray.empty)) g0 0 ByteArray.empty from rowSt_row (itCells 0 ByteArray.empty) [] (itCells 0 ByteArray.empty) w7 HIt7.out rfl)
  have hoth : ∀ k, k ≠ g0 → (rowSt w7 g0 0 (itCells 0 ByteArray.empty)).heap[k]? = w7.heap[k]? := fun k hk => rowSt_other hk (itCells 0 ByteArray.empty) 0 w7
  have hbel := rowSt_below (Nat.zero_le _) (itCells 0 ByteArray.empty) 0 _ (Below.refl 0 w7) (g := g0)
  have HF := Lib.hid (show ButTwo p g w (rowSt w7 g0 0 (itCells 0 ByteArray.empty)) from ⟨hbel.os.trans Ht7.out.os, hbel.tape.trans Ht7.out.tape, hbel.output.trans Ht7.out.output, Nat.le_trans Ht7.out.size hbel.size, fun k hk h1 h2 => (hoth k (by omega)).trans (Ht7.out.block k hk h1 h2)⟩)
  have HR9 := Lib.hid ((hoth p (by have := Hp.out.1; omega)).trans Hr7.out)
  have HM9 := Lib.hid (HD7.out.stay (hoth g (by have := Hp.out.2.1; omega)))
  clear hoth hbel
  rw [st_eq]
  generalize rowSt w7 g0 0 (itCells 0 ByteArray.empty) = w9 at *
  refine bodyPost_ret (v := .tuple #[itV 0 ByteArray.empty, .bool false]) (by simp [results, Try.results13, show (asAddr (Value.pointer (some ⟨g0, 0, none⟩))).run Try.prog w9 = .ok ⟨g0, 0, none⟩ w9 from rfl, it_loadVar HZ.out]) rfl ?_
  have hm9 := HM9.out
  rw [mpOf_put] at hm9
  exact ⟨rfl, ⟨HR9.out, hm9⟩, HF.out⟩
set_option maxRecDepth 100000 in
set_option maxHeartbeats 4000000 in
theorem voted_wins (p g n last : Nat) (Dm : Nat → Option OpR) (nd s : Nat) (r : OpR) (hD : Dm s = some r) (hc : r.c < 256) (hw : r.who < 256) (hn : nd < 256) (hh : hasS r.c nd = true) (hm : majorS r.c (withS r.who (ofS nd)) = true) (hs : s < 18446744073709551616) (w : World) (h : DeskAt w p g n Dm last) :
    Calls Try.prog 13 #[.pointer (some ⟨p, 0, none⟩), .int .u8 (nd : Int), .int .u64 (s : Int)] w fun e w' => e = .returned (.tuple #[itV s r.x, .bool true]) ∧ DeskAt w' p g n (updD Dm s none) last ∧ ButTwo p g w w' := by
  have hwho := of_lt nd
  have hha := fun y : World => has_any r.c nd hc hn y
  rw [hh] at hha
  have Hha := Lib.hid hha
  have hw8 : withS r.who (ofS nd) < 256 := and_byte (Nat.or_lt_two_pow (n := 8) hw (by omega))
  have Hof := Lib.hid (fun (y : World) (g o c : Nat) (h : y.cell? ⟨g, o, none⟩ = some (.int .u8 (nd : Int))) => pure_bel (of_any nd hn g o c y h))
  have Hwi := Lib.hid (fun y : World => pure_bel (with_any r.who (ofS nd) hw (by omega) y))
  have hma := fun y : World => pure_bel (major_any r.c (withS r.who (ofS nd)) hc hw8 y)
  rw [hm] at hma
  have Hma := Lib.hid hma
  clear hha hma hw8 hwho
  obtain ⟨w8, hw8⟩ : ∃ q, withS r.who (ofS nd) = q := ⟨_, rfl⟩
  rw [hw8] at Hwi Hma
  clear hw8
  have H := Lib.hid h
  have hk := key_ku hs
  clear h
  have hb := (Below.refl w.heap.size w).alloc (Nat.le_refl _) (.cells (itCells 0 ByteArray.empty).toArray 34)
  have hi : ItAt (w.alloc (.cells (itCells 0 ByteArray.empty).toArray 34)) w.heap.size 0 ByteArray.empty := heap_alloc_new _ _
  have Hb := Lib.hid hb
  have Hi := Lib.hid hi
  have Hd := Lib.hid (H.out.below hb)
  have hMo : mpOf Dm (ku s) = some (opV s r) := by rw [mpOf_at, hD]; rfl
  clear hb hi
  go_enter Try.func13, Try.ntmps13
  go_upto_region 1 with fail
  change Code.wp _ _ _ _ (w.alloc (.cells (itCells 0 ByteArray.empty).toArray 34))
  generalize w.alloc (.cells (itCells 0 ByteArray.empty).toArray 34) = w1 at *
  obtain ⟨g0, hg0⟩ : ∃ g0, w.heap.size = g0 := ⟨_, rfl⟩
  rw [hg0] at Hi
  obtain ⟨c0, c1⟩ := Hd.out.cells
  clear c1
  go_upto_region 4 with (first
    | (at_lookup; refine wpList_lookok_mp rfl _ _ 65 63 rfl lawU Try.underlying65 op_zero rfl Hd.out.mp _ (ku s) rfl hk ?_)
    | ((with_reducible refine wpList_store_mid rfl 63 _ _ rfl w1.heap.size 0 _ rfl rfl ?_ ?_ ?_ ?_); exact th_new w1 (opCells 0 op0) 63; exact op_size s r; exact all_oneCell_toArray (op_one s r)))
  change Code.wp _ _ _ _ ((w1.alloc (.cells (opCells 0 op0).toArray 63)).setCells w1.heap.size 0 (opCells s r))
  have hbx := box_below w1 (opCells 0 op0) (opCells s r) 63
  have HX := Lib.hid (show OpAt _ _ s r from box_row w1 (opCells 0 op0) (opCells s r) 63 rfl)
  have HIt := Lib.hid (Hi.out.below hbx)
  have Hd2 := Lib.hid (Hd.out.below hbx)
  have Hb2 := Lib.hid (Hb.out.trans (hbx.mono Hb.out.size))
  have Hng := Lib.hid (show g0 < w1.heap.size from (Array.getElem?_eq_some_iff.1 Hi.out).1)
  have Hnd := Lib.hid (And.intro Hd.out.lt Hd.out.mp.lt)
  clear hbx Hi Hd Hb c0
  generalize (w1.alloc (.cells (opCells 0 op0).toArray 63)).setCells w1.heap.size 0 (opCells s r) = w2 at *
  generalize w1.heap.size = gx at *
  have f2 : w2.cell? ⟨gx, 2, none⟩ = some (.int .u8 (r.c : Int)) := cell_of_row _ _ _ _ _ _ HX.out
  go_upto_region 6 with ((with_reducible refine (Hha.out _).mono ?_); rintro e w3 ⟨rfl, h3⟩; have H3 := Lib.hid h3; clear h3)
  have HIt3 := Lib.hid (HIt.out.below H3.out)
  have HX3 := Lib.hid (HX.out.below H3.out)
  have Hd3 := Lib.hid (Hd2.out.below H3.out)
  have Hb3 := Lib.hid (Hb2.out.trans (H3.out.mono Hb2.out.size))
  clear f2 HIt HX Hd2 Hb2 H3 Hha
  refine (wpIn_wide (n := 1)).1 ?_
  refine RegK.wpIn_region_can (F := Fence.wide) (KeptW w3) [(0, 0), (1, 0), (2, 0), (3, 1), (4, 1), (5, 1), (6, 0), (7, 3)] (by kernel_rfl) (by kernel_rfl) (by kernel_rfl) (fun _ _ d _ _ h => by cases d <;> exact h) ⟨rfl, rfl, rfl, Nat.le_refl _, fun _ _ => rfl⟩ ?_
  dsimp only [RegK.pick, List.getElem?_cons_zero, List.getElem?_cons_succ]
  change RegK.Can _ _ _ _ _ _ _ _ w3.drew
  have hkd : KeptW w3 w3.drew := ⟨rfl, rfl, rfl, Nat.le_refl _, fun _ _ => rfl⟩
  generalize w3.drew = v1 at *
  refine RegK.can_reads ?_; intro K hK; go_simp; (first | refine ⟨_, fun _ _ => rfl, hK _ ?_⟩ | refine hK _ ?_); clear hK K
  refine RegK.can_reads ?_
  intro K hK
  go_simp
  refine ⟨.int .u8 (r.who : Int), fun y hy => ?_, hK _ ?_⟩
  · have f3 : y.cell? ⟨gx, 3, none⟩ = some (.int .u8 (r.who : Int)) := cell_of_row _ _ _ _ _ _ (HX3.out.below (KeptW.bel hy))
    go_simp
  clear hK K
  refine RegK.can_reads ?_; intro K hK; go_simp; (first | refine ⟨_, fun _ _ => rfl, hK _ ?_⟩ | refine hK _ ?_); clear hK K
  refine RegK.can_turns (fun _ => trivial) ?_
  intro K K0 hK hK0
  go_simp
  have hb6 := (Below.refl v1.heap.size v1).alloc (Nat.le_refl _) (.cells #[.int .u8 (nd : Int)] 5)
  have hc6 : (v1.alloc (.cells #[.int .u8 (nd : Int)] 5)).cell? ⟨v1.heap.size, 0, none⟩ = some (.int .u8 (nd : Int)) := cell_of_row _ _ _ _ _ _ (heap_alloc_new _ _)
  have wbk : KeptW w3 (v1.alloc (.cells #[.int .u8 (nd : Int)] 5)) := KeptW.mono hkd hb6
  refine hK _ _ wbk ?_
  clear hK K hK0 K0
  generalize v1.alloc (.cells #[.int .u8 (nd : Int)] 5) = wb at *
  generalize v1.heap.size = g5 at *
  refine RegK.can_turns (fun _ => trivial) ?_
  intro K K0 hK hK0
  go_simp
  refine ⟨trivial, ?_⟩
  refine (callsIn_wide.2 (Hof.out wb g5 0 1 hc6)).mono ?_
  rintro e v2 ⟨rfl, hb7⟩
  have v2k : KeptW w3 v2 := KeptW.mono wbk hb7
  refine hK _ _ v2k ?_
  clear hK K hK0 K0
  refine RegK.can_turns (fun _ => trivial) ?_
  intro K K0 hK hK0
  go_simp
  refine ⟨trivial, ?_⟩
  refine (callsIn_wide.2 (Hwi.out v2)).mono ?_
  rintro e v3 ⟨rfl, hb7⟩
  have v3k : KeptW w3 v3 := KeptW.mono v2k hb7
  refine hK _ _ v3k ?_
  clear hK K hK0 K0
  refine RegK.can_reads ?_; intro K hK; go_simp; (first | refine ⟨_, fun _ _ => rfl, hK _ ?_⟩ | refine hK _ ?_); clear hK K
  have HX7 := Lib.hid (HX3.out.below (KeptW.bel v3k))
  have t3 := thawed_row 3 HX7.out
  have e3 : (v3).cell? ⟨gx, 3, none⟩ = some (.int .u8 (r.who : Int)) := cell_of_row _ _ _ _ _ _ HX7.out
  refine RegK.can_frees (fun _ => trivial) ?_
  intro K K0 hK hK0
  go_simp
  refine hK (fun _ => True) _ _ trivial ?_
  clear hK K hK0 K0
  refine RegK.can_nil ?_
  have HX4 := Lib.hid (show OpAt (v3.setCell ⟨gx, 3, none⟩ (.int .u8 (w8 : Int))) gx s { r with who := w8 } from by
    unfold OpAt
    rw [heap_setCell_same _ _ _ _ _ _ HX7.out]
    rfl)
  have hoth : ∀ k, k ≠ gx → (v3.setCell ⟨gx, 3, none⟩ (.int .u8 (w8 : Int))).heap[k]? = v3.heap[k]? := fun k hk => Below.heap_setCell _ _ _ _ (fun e => hk (by exact e))
  have hb4 := Hb3.out.trans ((KeptW.bel v3k).mono Hb3.out.size)
  have HIt4 := Lib.hid (show ItAt (v3.setCell ⟨gx, 3, none⟩ (.int .u8 (w8 : Int))) g0 0 ByteArray.empty from (hoth g0 (Nat.ne_of_lt Hng.out)).trans (HIt3.out.below (KeptW.bel v3k)))
  have hd4 := Hd3.out.below (KeptW.bel v3k)
  have Hd4 := Lib.hid (hd4.stay (hoth p (Nat.ne_of_lt Hnd.out.1)) (hoth g (Nat.ne_of_lt Hnd.out.2)))
  have Hb4 := Lib.hid (show Below w.heap.size w (v3.setCell ⟨gx, 3, none⟩ (.int .u8 (w8 : Int))) from hb4.trans ⟨rfl, rfl, rfl, by simp, fun k hk => hoth k (by have := Hng.out; omega)⟩)
  clear hoth hb4 hd4 HX7 t3 e3 hkd wbk hb6 hc6 HIt3 HX3 Hd3 Hb3 v3k
  generalize v3.setCell ⟨gx, 3, none⟩ (.int .u8 (w8 : Int)) = w4 at *
  have f2 : w4.cell? ⟨gx, 2, none⟩ = some (.int .u8 (r.c : Int)) := cell_of_row _ _ _ _ _ _ HX4.out
  have f3 : w4.cell? ⟨gx, 3, none⟩ = some (.int .u8 (w8 : Int)) := cell_of_row _ _ _ _ _ _ HX4.out
  go_upto_region 10 with ((with_reducible refine (Hma.out _).mono ?_); rintro e w5 ⟨rfl, h5⟩; have H5 := Lib.hid h5; clear h5)
  have HX5 := Lib.hid (HX4.out.below H5.out)
  have HIt5 := Lib.hid (HIt4.out.below H5.out)
  have Hd5 := Lib.hid (Hd4.out.below H5.out)
  have Hb5 := Lib.hid (Hb4.out.trans (H5.out.mono Hb4.out.size))
  obtain ⟨c0, c1⟩ := Hd5.out.cells
  clear f2 f3 HX4 HIt4 Hd4 Hb4 H5 c1
  have Hm5 := Lib.hid Hd5.out.mp
  have Hw5 := Lib.hid (Below.refl w5.heap.size w5)
  go_upto_region 11 with (at_delete; refine wpList_drop_mp rfl _ _ 65 63 rfl lawU Try.underlying65 rfl Hm5.out _ (ku s) rfl hk ?_; intro w7 hm7 ht7; have H7 := Lib.hid (And.intro hm7 ht7); clear hm7 ht7)
  have f1 : w7.cell? ⟨gx, 1, none⟩ = some (.string r.x) := cell_of_row _ _ _ _ _ _ (show w7.heap[gx]? = some (.cells (opCells s { r with who := w8 }).toArray 63 (0, 0)) from (turned_block H7.out.2 (show gx ≠ g by have := Hnd.out.2; omega)).trans HX5.out)
  clear c0
  have Hp := Lib.hid (And.intro H.out.lt (And.intro H.out.mp.lt H.out.ne))
  have HIt7 := Lib.hid (show ItAt w7 g0 0 ByteArray.empty from (turned_block H7.out.2 (show g0 ≠ g by have := Hp.out.2.1; omega)).trans (HIt5.out.below Hw5.out))
  have Hr7 := Lib.hid ((turned_block H7.out.2 Hp.out.2.2).trans ((Hw5.out.block p Hd5.out.lt).trans Hd5.out.row))
  have Ht7 := Lib.hid (((two_of (p := p) (g := g) (Hb5.out.trans (Hw5.out.mono Hb5.out.size)))).trans (two_turned H7.out.2))
  have HD7 := Lib.hid H7.out.1
  clear H7 HIt5 Hd5 Hb5 Hw5 Hm5
  go_wp2_with ((with_reducible refine wpList_store_mid rfl 34 _ _ rfl g0 0 _ rfl rfl ?_ ?_ ?_ ?_); exact there_row (cs := itCells 0 ByteArray.empty) HIt7.out; exact it_size 0 ByteArray.empty; exact all_oneCell_toArray (it_one s r.x))
  change bodyPost _ _ _ _ _ (World.setCells _ g0 0 (itCells s r.x))
  have HZ := Lib.hid (show ItAt (rowSt w7 g0 0 (itCells s r.x)) g0 s r.x from rowSt_row (itCells s r.x) [] (itCells 0 ByteArray.empty) w7 HIt7.out rfl)
  have hoth : ∀ k, k ≠ g0 → (rowSt w7 g0 0 (itCells s r.x)).heap[k]? = w7.heap[k]? := fun k hk => rowSt_other hk (itCells s r.x) 0 w7
  have hbel := rowSt_below (Nat.zero_le _) (itCells s r.x) 0 _ (Below.refl 0 w7) (g := g0)
  have HF := Lib.hid (show ButTwo p g w (rowSt w7 g0 0 (itCells s r.x)) from ⟨hbel.os.trans Ht7.out.os, hbel.tape.trans Ht7.out.tape, hbel.output.trans Ht7.out.output, Nat.le_trans Ht7.out.size hbel.size, fun k hk h1 h2 => (hoth k (by omega)).trans (Ht7.out.block k hk h1 h2)⟩)
  have HR9 := Lib.hid ((hoth p (by have := Hp.out.1; omega)).trans Hr7.out)
  have HM9 := Lib.hid (HD7.out.stay (hoth g (by have := Hp.out.2.1; omega)))
  clear hoth hbel
  rw [st_eq]
  generalize rowSt w7 g0 0 (itCells s r.x) = w9 at *
  refine bodyPost_ret (v := .tuple #[itV s r.x, .bool true]) (by simp [results, Try.results13, show (asAddr (Value.pointer (some ⟨g0, 0, none⟩))).run Try.prog w9 = .ok ⟨g0, 0, none⟩ w9 from rfl, it_loadVar HZ.out]) rfl ?_
  have hm9 := HM9.out
  rw [mpOf_del] at hm9
  exact ⟨rfl, ⟨HR9.out, hm9⟩, HF.out⟩
end Go.Proofs.Ytoleiiicbnmhpaa
namespace Go.Proofs.Ytoleiiicbnmhpaa
open Go.RowKit Go.Maps Go.Shelf
attribute [local go_sem] Oper.semAt_some
abbrev u64v (x : Int) : Value := .int .u64 x
theorem key_inv {key : Value} {kl : Lit} (h : keyOf Try.prog 31 key = some kl) : ∃ x : Int, key = u64v x ∧ kl = .int .u64 x ∧ (Lit.int .u64 x).wf = true := by
  have hu := Try.underlying31
  cases key <;> simp [keyOf, hu, mapKey] at h
  rename_i q a
  obtain ⟨⟨rfl, hw⟩, rfl⟩ := h
  exact ⟨a, rfl, rfl, hw⟩
/-- The keys that came: each once; all that are not left. -/
def Came (D : DataW Value) (left : Lit → Bool) (ss : List Int) : Prop := ss.Nodup ∧ ∀ x : Int, x ∈ ss ↔ Maps.has D (.int .u64 x) = true ∧ left (.int .u64 x) = false
theorem came_start (D : DataW Value) : Came D (Maps.has D) [] := ⟨List.nodup_nil, fun x => by simp⟩
theorem Came.step {D : DataW Value} {left : Lit → Bool} {ss : List Int} (h : Came D left ss) {x : Int} (hl : left (.int .u64 x) = true) (hD : Maps.has D (.int .u64 x) = true) : Came D (fun z => left z && !z.sameKey (.int .u64 x)) (ss ++ [x]) := by
  refine ⟨?_, fun y => ?_⟩
  · rw [List.nodup_append]
    refine ⟨h.1, by simp, fun a ha b hb => ?_⟩
    simp at hb
    subst hb
    rintro rfl
    have := ((h.2 a).1 ha).2
    rw [hl] at this
    cases this
  · rw [List.mem_append, List.mem_singleton, h.2 y]
    by_cases e : y = x
    · subst e
      simp [hD, Lit.sameKey]
    · simp [Lit.sameKey, e]
set_option maxRecDepth 100000 in
set_option maxHeartbeats 4000000 in
theorem keys1_in (n l Bm b nn : Nat) (hn : 1 ≤ n) (D0 : DataW Value) (J Jx : List Int → World → Prop)
    (hY : ∀ pre x W, J pre W → pre.length < Maps.size D0 → YieldAt Fence.wide (n - 1) Try.prog l #[u64v x] W fun e W' =>
      (e = .returned (.bool true) ∧ J (pre ++ [x]) W' ∧ KeepsWalks W W') ∨ (e = .returned (.bool false) ∧ Jx (pre ++ [x]) W'))
    (W : World) (hJ : AbidesFrom W.heap.size J) (hm : W.cell? ⟨Bm, 0, none⟩ = some (.map (some b))) (hown : W.ownsMap Try.prog 31 Rv b nn D0) (h0 : J [] W) :
    CallsIn Fence.wide n Try.prog 36 #[.func (.yield l) #[] #[], .pointer (some ⟨Bm, 0, none⟩)] W fun e W' => (∃ v, e = .returned v) ∧
      ((∃ ss : List Int, Came D0 (fun _ => false) ss ∧ J ss W') ∨ (∃ pre : List Int, Jx pre W')) := by
  refine callsIn_of_wp Try.func36 rfl trivial ?_ rfl
  simp only [Try.ntmps36, List.size_toArray, List.length_cons, List.length_nil, Nat.reduceAdd, Nat.reduceSub, Array.replicate_succ, Array.replicate_zero, List.push_toArray, List.append_toArray, List.nil_append, List.cons_append]
  gi_wp2_with (first
    | (gi_at_range; refine wpListIn_range_own _ rfl _ 65 rfl 31 63 lawU Try.underlying65 Rv b nn _ rfl hown ?_; intro w0 hrg0 hg0 hs0)
    | gi_in)
  go_frame
  gi_loopw [3] (fun _ wr => ∃ (left : Lit → Bool) (cnt : Nat) (ss : List Int), wr.ranges Try.prog 31 Rv b W.heap.size nn D0 left cnt ∧ ss.length + cnt ≤ Maps.size D0 ∧ Came D0 left ss ∧ J ss wr)
    (fun _ wr => wr.rangeLeft b W.heap.size)
  case atStart => exact ⟨_, _, [], hrg0, by simp, came_start D0, hJ [] W w0 none h0 hg0 (fun r e => by cases e)⟩
  case round =>
    obtain ⟨left, cnt, ss, hrg, hcs, hC, hJs⟩ := hrel
    gi_wp2_with (first
      | (gi_at_next; refine wpListIn_next_ranges _ rfl _ rfl 31 lawU Rv u64v id (fun key kl hk => by obtain ⟨x, hx, _⟩ := key_inv hk; exact ⟨x, hx⟩) (fun v _ _ => ⟨v, rfl⟩) b W.heap.size nn _ _ _ rfl hrg ?_ ?_)
      | gi_in)
    · intro hc0 hl0
      gi_wp2
      go_end0
      refine ⟨⟨_, rfl⟩, .inl ⟨ss, ?_, hJs⟩⟩
      have : left = fun _ => false := funext hl0
      rw [← this]
      exact hC
    · intro x c kl yd yp w2 cnt2 hkey hlk hv hat hrg2 hlt hg2 hs2 hen
      obtain ⟨x', ex, rfl, _⟩ := key_inv hkey
      obtain rfl : x = x' := by cases ex; rfl
      have hJ2 : J ss w2 := hJ ss wr w2 (some W.heap.size) hJs hg2 (fun r e => by cases e; exact ⟨Nat.le_refl _, hrg.iter_walk⟩)
      obtain ⟨fn, tmps, assign, body, hy, hR⟩ := hY ss x w2 hJ2 (by omega)
      clear hs2
      gi_wp2
      refine hR.mono ?_
      have hhas : Maps.has D0 (.int .u64 x) = true := Maps.has_true_of_atKey hat
      have hC2 := hC.step hlk hhas
      rintro e W3 (⟨rfl, hJ3, hk3⟩ | ⟨rfl, hJx3⟩)
      · gi_wp2
        have hrg3 := hrg2.of_walks hk3
        go_roundw
        case rel => exact ⟨_, cnt2, ss ++ [x], hrg3, by simp; omega, hC2, hJ3⟩
        case measure => rw [hrg3.left_eq, hrg.left_eq]; exact hlt
      · gi_wp2
        refine bodyPost_ret (results_none rfl _ _ _) rfl ?_
        exact ⟨⟨_, rfl⟩, .inr ⟨ss ++ [x], hJx3⟩⟩
theorem keys_stops (n Bm b nn : Nat) (hn : 1 ≤ n) (D0 : DataW Value) (w : World) (hBm : Bm < w.heap.size) (hm : w.cell? ⟨Bm, 0, none⟩ = some (.map (some b))) (hown : w.ownsMap Try.prog 31 Rv b nn D0) :
    SeqStops Fence.wide n Try.prog 36 #[.pointer (some ⟨Bm, 0, none⟩)] u64v (fun ss => Came D0 (fun _ => false) ss) (fun _ => True) (Maps.size D0) w := fun l J Jx W hW hJ _ hY h0 => by
  have hown' : W.ownsMap Try.prog 31 Rv b nn D0 := by
    have hbl := hown.lt
    obtain ⟨es, clock, hb, Ft, hs, hD⟩ := hown
    exact ⟨es, clock, (hW.block b hbl).trans hb, Ft, hs, hD⟩
  refine (keys1_in n l Bm b nn hn D0 J Jx hY W hJ ((hW.cell (p := ⟨Bm, 0, none⟩) hBm).trans hm) hown' h0).mono ?_
  rintro e W' ⟨h1, h2 | ⟨pre, hp⟩⟩
  · exact ⟨h1, .inl h2⟩
  · exact ⟨h1, .inr ⟨pre, trivial, hp⟩⟩
theorem keys_in (n : Nat) (mb : Option Nat) (w : World) :
    CallsIn Fence.wide n Try.prog 28 #[.map mb] w fun e w' => e = .returned (.func (.func 36) #[] #[.pointer (some ⟨w.heap.size, 0, none⟩)]) ∧ w' = w.alloc (.cells #[.map mb] 65) := by
  refine callsIn_of_wp Try.func28 rfl trivial ?_ rfl
  simp only [Try.ntmps28, List.size_toArray, List.length_cons, List.length_nil, Nat.reduceAdd, Nat.reduceSub, Array.replicate_succ, Array.replicate_zero, List.push_toArray, List.append_toArray, List.nil_append, List.cons_append]
  gi_wp2
  go_ret
  exact ⟨rfl, rfl⟩
end Go.Proofs.Ytoleiiicbnmhpaa
namespace Go.Proofs.Ytoleiiicbnmhpaa
open Go.RowKit Go.Maps Go.Shelf
attribute [local go_sem] Oper.semAt_some
theorem info64 : (Try.prog.info? 31).map (fun i => (i.zero, i.size, i.bytes)) = some (some (.int .u64 0), 1, 8) := by kernel_rfl
theorem own_not {W : World} {base : Nat} {v : Value} {n : Nat} {xs : List Value} (h : W.ownsRow base 31 1 v n xs) {j : Nat} {o : Obj} (hj : W.heap[j]? = some o) (ho : ∀ cs, o ≠ .cells cs 31 (0, 0)) : some j ≠ v.ownBlock := fun e => by
  rcases h.2 with ⟨rfl, _⟩ | ⟨g, cap, cur, rfl, _, hg, _⟩
  · cases e
  · have e2 : j = g := Option.some.inj e
    subst e2
    rw [hj] at hg
    exact ho _ (Option.some.inj hg)
theorem own_grown {W W' : World} {base : Nat} {v : Value} {n : Nat} {xs : List Value} {row : Option Nat} (h : W.ownsRow base 31 1 v n xs) (hg : W.grownBy W' row) (hne : ∀ g, v.ownBlock = some g → some g ≠ row) : W'.ownsRow base 31 1 v n xs := by
  refine ⟨h.1, ?_⟩
  rcases h.2 with h2 | ⟨g, cap, cur, e, h3, hgg, h4⟩
  · exact .inl h2
  · subst e
    exact .inr ⟨g, cap, cur, rfl, h3, (hg.block g (Array.getElem?_eq_some_iff.1 hgg).1 (hne g rfl)).trans hgg, h4⟩
/-- Between two rounds: the box holds a slice of what came. -/
structure ApI (w0 : World) (B : Nat) (pre : List Int) (W : World) : Prop where
  box : ∃ v, W.heap[B]? = some (.cells #[v] 70 (0, 0)) ∧ W.ownsRow w0.heap.size 31 1 v pre.length (pre.map u64v) ∧ (v = .slice none 0 0 ↔ pre = [])
  bel : Below w0.heap.size w0 W
theorem ApI.own {w0 : World} {B B0 : Nat} (hB : w0.heap.size ≤ B0) : OwnFrom B0 (ApI w0 B) := fun s W W' row hs hg hr => by
  obtain ⟨v, hv, ho, hn⟩ := hs.box
  have hne : ∀ g, v.ownBlock = some g → some g ≠ row := fun g e e2 => by
    obtain ⟨_, o, h1, h2⟩ := hr g e2.symm
    rcases ho.2 with ⟨rfl, _⟩ | ⟨g', cap, cur, rfl, _, hgg, _⟩
    · cases e
    · cases e
      rw [h1] at hgg
      cases hgg
      cases h2
  have hBr : some B ≠ row := fun e => by
    obtain ⟨_, o, h1, h2⟩ := hr B e.symm
    rw [h1] at hv
    cases hv
    cases h2
  exact ⟨⟨v, (hg.block B (Array.getElem?_eq_some_iff.1 hv).1 hBr).trans hv, own_grown ho hg hne, hn⟩,
    ⟨hg.os.trans hs.bel.os, hg.tape.trans hs.bel.tape, hg.output.trans hs.bel.output, Nat.le_trans hs.bel.size hg.size, fun q hq => (hg.block q (Nat.lt_of_lt_of_le hq hs.bel.size) (fun e => by have := (hr q e.symm).1; omega)).trans (hs.bel.block q hq)⟩⟩
set_option maxRecDepth 100000 in
set_option maxHeartbeats 4000000 in
theorem appendSeq_in (m Bm b nn : Nat) (hm : 3 ≤ m) (D0 : DataW Value) (hN : Maps.size D0 ≤ 1000000) (w : World) (hBm : Bm < w.heap.size) (hc : w.cell? ⟨Bm, 0, none⟩ = some (.map (some b))) (hown : w.ownsMap Try.prog 31 Rv b nn D0) :
    CallsIn Fence.wide m Try.prog 38 #[.slice none 0 0, .func (.func 36) #[] #[.pointer (some ⟨Bm, 0, none⟩)]] w fun e w' =>
      ∃ v ss, e = .returned v ∧ Came D0 (fun _ => false) ss ∧ w'.ownsRow w.heap.size 31 1 v ss.length (ss.map u64v) ∧ (v = .slice none 0 0 ↔ ss = []) ∧ Below w.heap.size w w' := by
  refine callsIn_of_wp_marks Try.func38 rfl trivial ?_ rfl
  simp only [Try.ntmps38, List.size_toArray, List.length_cons, List.length_nil, Nat.reduceAdd, Nat.reduceSub, Array.replicate_succ, Array.replicate_zero, List.push_toArray, List.append_toArray, List.nil_append, List.cons_append]
  gi_wp2
  have hb0 := (Below.refl w.heap.size w).alloc (Nat.le_refl _) (.cells #[.slice none 0 0] 70)
  have hv0 := heap_alloc_new w (.cells #[.slice none 0 0] 70)
  have hs0 : (w.alloc (.cells #[.slice none 0 0] 70)).heap.size = w.heap.size + 1 := by simp
  generalize w.alloc (.cells #[.slice none 0 0] 70) = w1 at *
  have hown1 : w1.ownsMap Try.prog 31 Rv b nn D0 := by
    have hbl := hown.lt
    obtain ⟨es, clock, hb, Ft, hs, hD⟩ := hown
    exact ⟨es, clock, (hb0.block b hbl).trans hb, Ft, hs, hD⟩
  have hc1 := (hb0.cell (p := ⟨Bm, 0, none⟩) hBm).trans hc
  have hI0 : ApI w w.heap.size [] w1 := ⟨⟨_, hv0, ⟨rfl, .inl ⟨rfl, rfl⟩⟩, by simp⟩, hb0⟩
  refine wpIn_rangeFunc_ownF (F := Fence.wide) rfl (by omega) (gf := 36) (lb := #[.pointer (some ⟨Bm, 0, none⟩)]) rfl trivial (enters_of Try.func36 (by kernel_rfl) rfl)
    (keys_stops (m - 1) Bm b nn (by omega) D0 w1 (by omega) hc1 hown1) walksK_t walksK_b (Below.refl _ _) (fun _ => rfl)
    (ApI w w.heap.size) (fun _ _ _ => False) (ApI.own (by omega)) (fun _ _ _ _ _ h _ _ => h) hI0
    (fun x => { tmps := #[.slice none 0 0, (.func (.func 36) #[] #[.pointer (some ⟨Bm, 0, none⟩)]), .pointer (some ⟨w.heap.size, 0, none⟩), undef, .slice none 0 0, u64v x, (.func (.func 36) #[] #[.pointer (some ⟨Bm, 0, none⟩)]), u64v x, undef, undef, undef, undef, undef], defers := [] }) ?assign ?body ?done ?stop
  case assign =>
    intro l x W K hK
    gi_wp2
    exact hK
  case body =>
    rintro l pre x W hI hlen
    obtain ⟨i0, hi, hz0, hz1, hz2⟩ := info_parts info64
    obtain ⟨v, hv, ho, hn⟩ := hI.box
    have f0 : W.cell? ⟨w.heap.size, 0, none⟩ = some v := cell_of_row _ _ _ _ _ _ hv
    have hb := hI.bel
    have hBlt := (Array.getElem?_eq_some_iff.1 hv).1
    have Hlen := Lib.hid (show pre.length < 1000000 from by omega)
    have HI := Lib.hid (And.intro hv (And.intro ho (And.intro hn hb)))
    clear hv ho hn hb hI hlen
    gi_wp2_with (first
      | (gi_at_builtin; refine wpListIn_append_own _ rfl _ _ 70 rfl w.heap.size 31 i0 (.int .u64 0) 1 8 Try.underlying70 hi hz0 hz1 hz2 rfl (by decide) _ _ _ rfl (HI.out.2.1.alloc _) ⟨W.heap.size, 0, none⟩ 1 1 [u64v x] rfl rfl (cell_one_new _ _ _) (by simp [Value.oneCell', u64v]) (by have := Hlen.out; unfold maxLen; omega) (by have := Hlen.out; omega) (by have := HI.out.2.2.2.size; simp; omega) ?_; intro v' w3 hown' hg3 hnil3; have H3 := Lib.hid (And.intro hown' hg3); clear hg3 hnil3
         obtain ⟨g', cap', cur', rfl, hr⟩ : ∃ g' cap' cur', v' = .slice (some ⟨g', 0, none⟩) (pre.length + 1) cap' ∧ w3.heap[g']? = some (.cells cur' 31 (0, 0)) := by
           rcases hown'.2 with ⟨_, h0⟩ | ⟨g', cap', cur', e, _, h5, _⟩
           · exact absurd h0 (by omega)
           · exact ⟨g', cap', cur', e, h5⟩
         have hv3 : w3.heap[w.heap.size]? = some (.cells #[v] 70 (0, 0)) := (H3.out.2.block w.heap.size (by simp; omega) (own_not HI.out.2.1 HI.out.1 (fun cs e => by cases e))).trans ((Below.heap_alloc _ _ _ hBlt).trans HI.out.1)
         have f3 : w3.cell? ⟨w.heap.size, 0, none⟩ = some v := cell_of_row _ _ _ _ _ _ hv3
         have t3 := thawed_row 0 hv3
         have Hv3 := Lib.hid hv3
         clear hown' hr hv3 f0
         go_frame)
      | gi_in)
    have hg3 : (W.alloc (.cells #[u64v x] 31)).grownBy w3 v.ownBlock := H3.out.2
    have hk3 : KeepsOthers W w3 := (KeepsOthers.alloc _ _).trans (KeepsOthers.of_grownBy hg3 (fun j o e hj => by
      rcases (HI.out.2.1.alloc (.cells #[u64v x] 31)).2 with ⟨rfl, _⟩ | ⟨g5, cap5, cur5, rfl, _, h6, _⟩
      · cases e
      · cases e
        rw [hj] at h6
        cases h6
        rfl))
    have hb3 : Below w.heap.size w w3 := by
      have hb := HI.out.2.2.2
      refine (hb.alloc hb.size (.cells #[u64v x] 31)).trans ⟨hg3.os, hg3.tape, hg3.output, hg3.size, fun q hq => hg3.block q (by have := hb.size; simp; omega) (fun e => ?_)⟩
      rcases HI.out.2.1.2 with ⟨e2, _⟩ | ⟨g5, _, _, e2, h5, _⟩
      · rw [e2] at e; cases e
      · rw [e2] at e
        have e3 : q = g5 := Option.some.inj e
        omega
    refine ⟨hk3.trans (KeepsOthers.setCell _ _ _), (hk3.trans (KeepsOthers.setCell _ _ _)).walks, ⟨⟨.slice (some ⟨g', 0, none⟩) (pre.length + 1) cap', ?_, ?_, ?_⟩, ?_⟩⟩
    · rw [heap_setCell_same _ _ _ _ _ _ Hv3.out]
      rfl
    · have ho := H3.out.1
      rw [List.map_append, List.length_append]
      refine own_grown ho (row := some w.heap.size) ⟨rfl, rfl, rfl, by simp, fun k _ hk => Below.heap_setCell _ _ _ _ (fun e => hk (by rw [e]))⟩ (fun g e e2 => ?_)
      exact own_not ho Hv3.out (fun cs e => by cases e) (by rw [e, e2])
    · simp
    · exact hb3.trans ⟨rfl, rfl, rfl, by simp, fun k hk => Below.heap_setCell _ _ _ _ (fun e => by have : k = w.heap.size := e; omega)⟩
  case done =>
    rintro D ys W hD hS hI hK
    obtain ⟨v, hv, ho, hn⟩ := hI.box
    have f0 : W.cell? ⟨w.heap.size, 0, none⟩ = some v := cell_of_row _ _ _ _ _ _ hv
    have HI := Lib.hid (And.intro hv (And.intro ho (And.intro hn hI.bel)))
    have HK := Lib.hid hK
    clear hv ho hn hI hK
    gi_wp2
    have hb7 : Below w.heap.size w (W.putObj D (.deferred none)) := HI.out.2.2.2.trans (belowK_b (w := w) (Nat.le_refl _) W D _ _ (by omega) HK.out rfl rfl)
    refine ⟨by simp, .inl ⟨_, _, rfl, run_takeDeferred HK.out, ?_⟩⟩
    refine ⟨v, ?_, v, ys, rfl, hS, own_grown HI.out.2.1 (grownBy_putObj' W D (.deferred none)) (fun g e e2 => own_not HI.out.2.1 HK.out (fun cs e => by cases e) (by rw [e, e2])), HI.out.2.2.1, hb7⟩
    simp [results, Try.results38, go_sem]
  case stop =>
    rintro D c pre W hD hpre h _
    exact h.elim
end Go.Proofs.Ytoleiiicbnmhpaa
namespace Go.Proofs.Ytoleiiicbnmhpaa
open Go.RowKit Go.Maps Go.Shelf
theorem collect_any (Bm b nn : Nat) (D0 : DataW Value) (hN : Maps.size D0 ≤ 1000000) (w : World) (hBm : Bm < w.heap.size) (hc : w.cell? ⟨Bm, 0, none⟩ = some (.map (some b))) (hown : w.ownsMap Try.prog 31 Rv b nn D0) :
    Calls Try.prog 34 #[.func (.func 36) #[] #[.pointer (some ⟨Bm, 0, none⟩)]] w fun e w' =>
      ∃ v ss, e = .returned v ∧ Came D0 (fun _ => false) ss ∧ w'.ownsRow w.heap.size 31 1 v ss.length (ss.map u64v) ∧ (v = .slice none 0 0 ↔ ss = []) ∧ Below w.heap.size w w' := by
  have H := Lib.hid (callsIn_wide.1 (appendSeq_in 5 Bm b nn (by omega) D0 hN w hBm hc hown))
  clear hown hc
  go_enter Try.func34, Try.ntmps34
  go_wp2_with ((with_reducible refine H.out.mono ?_); rintro e w2 ⟨v, ss, rfl, h1, h2, h3, h4⟩; have H2 := Lib.hid (And.intro h1 (And.intro h2 (And.intro h3 h4))); clear h1 h2 h3 h4)
  go_ret
  exact ⟨v, ss, rfl, H2.out.1, H2.out.2.1, H2.out.2.2.1, H2.out.2.2.2⟩
theorem blen_any (n : Nat) (hn : n < 18446744073709551616) (w : World) : Calls Try.prog 40 #[.int .u64 (n : Int)] w fun e w' => e = .returned (.int .i64 (Lib.bitLen n : Int)) ∧ w = w' := by
  have H := Lib.hid (len64_any n hn w)
  go_enter Try.func40, Try.ntmps40
  go_wp2_with ((with_reducible refine H.out.mono ?_); rintro e w2 ⟨rfl, rfl⟩)
  go_ret
  exact ⟨rfl, rfl⟩
set_option maxRecDepth 100000 in
theorem insert1_any (A : Option Addr) (n c : Nat) (hn : n ≤ 1) (w : World) : Calls Try.prog 41 #[.slice A n c, .int .i64 0, .int .i64 (n : Int)] w fun e w' => e = .returned (.tuple #[]) ∧ w = w' := by
  have h1 : ¬ (1 : Int) < (n : Int) := by omega
  clear hn
  go_enter Try.func41, Try.ntmps41
  go_upto_region 1 with fail
  go_loopw [6] (fun s6 wr => w = wr ∧ s6 = .int .i64 1) (fun _ _ => 0)
  case atStart => exact ⟨rfl, rfl⟩
  case round =>
    obtain ⟨rfl, rfl⟩ := hrel
    go_wp2_with fail
    refine bodyPost_end (results_none rfl _ _ _) rfl ?_
    exact ⟨rfl, rfl⟩
set_option maxRecDepth 100000 in
theorem pdq1_any (A : Option Addr) (n c : Nat) (hn : n ≤ 1) (l : Nat) (w : World) : Calls Try.prog 39 #[.slice A n c, .int .i64 0, .int .i64 (n : Int), .int .i64 (l : Int)] w fun e w' => e = .returned (.tuple #[]) ∧ w = w' := by
  have H := Lib.hid (insert1_any A n c hn w)
  have h1 : (n : Int) ≤ 12 := by omega
  have hw : IntKind.i64.wrap (n : Int) = (n : Int) := by rw [IntKind.wrap_i64]; omega
  clear hn
  go_enter Try.func39, Try.ntmps39
  go_upto_region 2 with fail
  go_loopw [1, 2, 3, 8, 9] (fun s1 s2 s3 s8 s9 wr => w = wr ∧ s1 = .int .i64 0 ∧ s2 = .int .i64 (n : Int) ∧ s3 = .int .i64 (l : Int) ∧ s8 = .bool true ∧ s9 = .bool true) (fun _ _ _ _ _ _ => 0)
  case atStart => exact ⟨rfl, rfl, rfl, rfl, rfl, rfl⟩
  case round =>
    obtain ⟨rfl, rfl, rfl, rfl, rfl, rfl⟩ := hrel
    go_wp2_with ((with_reducible refine H.out.mono ?_); rintro e w2 ⟨rfl, rfl⟩)
    refine bodyPost_ret (results_none rfl _ _ _) rfl ?_
    exact ⟨rfl, rfl⟩
theorem sort1_any (A : Option Addr) (n c : Nat) (hn : n ≤ 1) (w : World) : Calls Try.prog 35 #[.slice A n c] w fun e w' => e = .returned (.tuple #[]) ∧ Below w.heap.size w w' := by
  have Hb := Lib.hid (fun y : World => pure_bel (blen_any n (by omega) y))
  have Hp := Lib.hid (fun y : World => pure_bel (pdq1_any A n c hn (Lib.bitLen n) y))
  have hw : IntKind.u64.wrap (n : Int) = (n : Int) := by rw [IntKind.wrap_u64]; omega
  generalize Lib.bitLen n = l at *
  clear hn
  go_enter Try.func35, Try.ntmps35
  go_wp2_with (first
    | ((with_reducible refine (Hb.out _).mono ?_); rintro e w2 ⟨rfl, h2⟩; have H2 := Lib.hid h2; clear h2)
    | ((with_reducible refine (Hp.out _).mono ?_); rintro e w3 ⟨rfl, h3⟩; have H3 := Lib.hid h3; clear h3))
  refine bodyPost_end (results_none rfl _ _ _) rfl ?_
  exact ⟨rfl, H2.out.trans (H3.out.mono H2.out.size)⟩
/-- The sorted keys, where there is one at most. -/
def KeysPost (D0 : DataW Value) (w : World) (e : Ending) (w' : World) : Prop := ∃ v ss, e = .returned v ∧ Came D0 (fun _ => false) ss ∧ w'.ownsRow w.heap.size 31 1 v ss.length (ss.map u64v) ∧ (v = .slice none 0 0 ↔ ss = []) ∧ Below w.heap.size w w'
theorem came_len {D0 : DataW Value} {ss : List Int} (h : Came D0 (fun _ => false) ss) (h1 : ∀ x y : Int, Maps.has D0 (.int .u64 x) = true → Maps.has D0 (.int .u64 y) = true → x = y) : ss.length ≤ 1 := by
  match ss, h with
  | [], _ => exact Nat.zero_le _
  | [_], _ => exact Nat.le_refl _
  | a :: b :: r, h =>
    exfalso
    have ha := ((h.2 a).1 (by simp)).1
    have hb := ((h.2 b).1 (by simp)).1
    have e := h1 a b ha hb
    subst e
    have := h.1
    simp at this
theorem sorted1_any (Bm b nn : Nat) (D0 : DataW Value) (hN : Maps.size D0 ≤ 1000000) (h1 : ∀ x y : Int, Maps.has D0 (.int .u64 x) = true → Maps.has D0 (.int .u64 y) = true → x = y) (w : World) (hBm : Bm < w.heap.size) (hc : w.cell? ⟨Bm, 0, none⟩ = some (.map (some b))) (hown : w.ownsMap Try.prog 31 Rv b nn D0) :
    Calls Try.prog 27 #[.func (.func 36) #[] #[.pointer (some ⟨Bm, 0, none⟩)]] w (KeysPost D0 w) := by
  have H := Lib.hid (collect_any Bm b nn D0 hN w hBm hc hown)
  clear hown hc
  go_enter Try.func27, Try.ntmps27
  go_upto_region 2 with ((with_reducible refine H.out.mono ?_); rintro e w2 ⟨v, ss, rfl, h1, h2, h3, h4⟩; have H2 := Lib.hid (And.intro h1 (And.intro h2 (And.intro h3 h4))); clear h1 h2 h3 h4)
  obtain ⟨A, c, rfl⟩ : ∃ A c, v = .slice A ss.length c := by
    rcases H2.out.2.1.2 with ⟨rfl, h0⟩ | ⟨g, cap, cur, rfl, _⟩
    · rw [h0]; exact ⟨none, 0, rfl⟩
    · exact ⟨_, _, rfl⟩
  have Hs := Lib.hid (sort1_any A ss.length c (came_len H2.out.1 h1) w2)
  go_wp2_with ((with_reducible refine Hs.out.mono ?_); rintro e w3 ⟨rfl, h3⟩; have H3 := Lib.hid h3; clear h3)
  go_ret
  refine ⟨_, ss, rfl, H2.out.1, ?_, H2.out.2.2.1, H2.out.2.2.2.trans (H3.out.mono H2.out.2.2.2.size)⟩
  exact own_grown H2.out.2.1 (row := none) ⟨H3.out.os, H3.out.tape, H3.out.output, H3.out.size, fun k hk _ => H3.out.block k hk⟩ (fun g e e2 => by cases e2)
end Go.Proofs.Ytoleiiicbnmhpaa
namespace Go.Proofs.Ytoleiiicbnmhpaa
open Go.RowKit
section
variable {α : Type} {enc : α → List Value} {k : Nat}
/-- The cells of a row. -/
def flat (enc : α → List Value) (z : List α) : List Value := z.flatMap enc
theorem flat_len (hk : ∀ x, (enc x).length = k) : ∀ z : List α, (flat enc z).length = z.length * k
  | [] => by simp [flat]
  | x :: r => by
    have h := flat_len hk r
    unfold flat at *
    rw [List.flatMap_cons, List.length_append, hk, h, List.length_cons, Nat.succ_mul]
    omega
theorem flat_app (z y : List α) : flat enc (z ++ y) = flat enc z ++ flat enc y := by simp [flat]
theorem flat_at (hk : ∀ x, (enc x).length = k) : ∀ (z : List α) (i r : Nat) (x : α) (u : Value), z[i]? = some x → (enc x)[r]? = some u → (flat enc z)[i * k + r]? = some u
  | [], _, _, _, _, h, _ => by simp at h
  | y :: l, 0, r, x, u, h, hu => by
    simp at h
    subst h
    have hr : r < (enc y).length := (List.getElem?_eq_some_iff.1 hu).1
    unfold flat
    rw [List.flatMap_cons, Nat.zero_mul, Nat.zero_add, List.getElem?_append_left hr, hu]
  | y :: l, i + 1, r, x, u, h, hu => by
    simp at h
    have ih := flat_at hk l i r x u h hu
    unfold flat at *
    rw [List.flatMap_cons, List.getElem?_append_right (by rw [hk, Nat.succ_mul]; omega), hk, Nat.succ_mul, show i * k + k + r - k = i * k + r by omega]
    exact ih
theorem flat_get (hk : ∀ x, (enc x).length = k) (hk0 : 0 < k) {z : List α} {j : Nat} {u : Value} (h : (flat enc z)[j]? = some u) : ∃ x, z[j / k]? = some x ∧ (enc x)[j % k]? = some u := by
  have hj : j < z.length * k := by
    have := (List.getElem?_eq_some_iff.1 h).1
    rwa [flat_len hk] at this
  have hi : j / k < z.length := Nat.div_lt_of_lt_mul (by rw [Nat.mul_comm]; exact hj)
  have hr : j % k < (enc z[j / k]).length := by rw [hk]; exact Nat.mod_lt _ hk0
  have e := flat_at hk z (j / k) (j % k) z[j / k] _ (List.getElem?_eq_getElem hi) (List.getElem?_eq_getElem hr)
  rw [show j / k * k + j % k = j by rw [Nat.mul_comm]; exact Nat.div_add_mod j k, h] at e
  cases e
  exact ⟨_, List.getElem?_eq_getElem hi, List.getElem?_eq_getElem hr⟩
theorem flat_one (h1 : ∀ x, ∀ u ∈ enc x, u.oneCell' = true) (z : List α) : ∀ u ∈ flat enc z, u.oneCell' = true := by
  intro u hu
  obtain ⟨x, _, hx⟩ := List.mem_flatMap.1 hu
  exact h1 x u hx
/-- An owned row reads as its elements. -/
theorem own_slice {w : World} {base : Nat} {e : TypeId} {A : Option Addr} {n c : Nat} {z : List α} (hk : ∀ x, (enc x).length = k) (h : w.ownsRow base e k (.slice A n c) n (flat enc z)) (hz : z.length = n) (hm : n ≤ maxLen) : SliceAt k enc w A n z := by
  obtain ⟨h1, h2⟩ := h
  refine ⟨hz, hm, fun i x hx => ?_⟩
  have hi : i < z.length := (List.getElem?_eq_some_iff.1 hx).1
  rcases h2 with ⟨_, h3⟩ | ⟨g, cap, cur, e1, _, hg, _, _, _, ht⟩
  · omega
  · cases e1
    refine ⟨g, 0, rfl, (Array.getElem?_eq_some_iff.1 hg).1, fun j v hj => ?_⟩
    have e := flat_at hk z i j x v hx hj
    have hlt : i * k + j < n * k := by
      have := (List.getElem?_eq_some_iff.1 e).1
      rwa [flat_len hk, hz] at this
    rw [← ht, List.getElem?_take, if_pos hlt, Array.getElem?_toList] at e
    simp only [World.cell?, hg, Nat.zero_add]
    simpa using e
theorem own_nil {w : World} {base : Nat} {e : TypeId} {A : Option Addr} {n c : Nat} {xs : List Value} (h : w.ownsRow base e k (.slice A n c) n xs) : A = none → n = 0 ∧ c = 0 := by
  rintro rfl
  rcases h.2 with ⟨e1, _⟩ | ⟨g, cap, cur, e1, _⟩
  · cases e1; exact ⟨rfl, rfl⟩
  · cases e1
theorem own_slice_of {w : World} {base : Nat} {e : TypeId} {v : Value} {n : Nat} {xs : List Value} (h : w.ownsRow base e k v n xs) : ∃ A c, v = .slice A n c := by
  rcases h.2 with ⟨rfl, rfl⟩ | ⟨g, cap, cur, rfl, _⟩
  · exact ⟨none, 0, rfl⟩
  · exact ⟨_, _, rfl⟩
/-- 'append(s, x...)', s owned, x a row of structs, nil or not. -/
theorem wp_append_slice {P : Program} {w : World} {o : Oper} {a : Act} {K : Act → World → Prop} {Q : Exit → Act → World → Prop} (s x : Operand) (t : TypeId)
    (ho : o.op = .call { callee := .builtin .append, args := #[s, x], argTypes := #[t, t] })
    (base : Nat) (e : TypeId) (i : TypeInfo) (z0 : Value) (bytes : Nat) (ht : P.underlying t = some (.slice e)) (hi : P.info? e = some i) (hz : i.zero = some z0)
    (hsize : i.size = k) (hby : i.bytes = bytes) (hzs : z0.cells.size = k) (hk0 : 0 < k) (hk : ∀ x, (enc x).length = k) (h1 : ∀ x, ∀ u ∈ enc x, u.oneCell' = true)
    (v : Value) (n : Nat) (xs : List Value) (hs : a.eval s = v) (hown : w.ownsRow base e k v n xs) (A : Option Addr) (m c : Nat) (z : List α) (hx : a.eval x = .slice A m c) (hsrc : SliceAt k enc w A m z) (hnil : A = none → m = 0 ∧ c = 0)
    (h63 : n + m ≤ maxLen) (hbytes : (n + m) * bytes ≤ 140737488355328) (hbase : base ≤ w.heap.size)
    (h : ∀ v' w', w'.ownsRow base e k v' (n + m) (xs ++ flat enc z) → w.grownBy w' v.ownBlock → K (a.put o.dst v') w') : o.wp P a w K Q := by
  cases A with
  | none =>
    obtain ⟨rfl, rfl⟩ := hnil rfl
    have hz0 : z = [] := List.eq_nil_of_length_eq_zero hsrc.hlen
    subst hz0
    have hrun := run_append_owned_none (P := P) (w := w) base t o.type e i k ht hi v n xs hown
    have hh := h v w (by simpa [flat] using hown) (World.grownBy.refl w _)
    unfold Oper.wp
    simp [execOp, ho, resolve, invoke, builtin, hs, hx, hrun, Result.andThen]
    exact hh
  | some ad =>
    refine wp_append_own w s x t ho base e i z0 k bytes ht hi hz hsize hby hzs hk0 v n xs hs hown ad m c (flat enc z) hx (by rw [flat_len hk, hsrc.hlen]) (fun j u hj => ?_) (flat_one h1 z) h63 hbytes hbase (fun v' w' h3 h4 _ => h v' w' h3 h4)
    obtain ⟨y, hy, hu⟩ := flat_get hk hk0 hj
    obtain ⟨b, o', e1, _, e3⟩ := hsrc.cells _ y hy
    cases e1
    rw [Addr.add_lit, ← e3 _ u hu, show j / k * k + j % k = j by rw [Nat.mul_comm]; exact Nat.div_add_mod j k]
end
end Go.Proofs.Ytoleiiicbnmhpaa
